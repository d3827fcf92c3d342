/- The core of a small abstract machine over Go's data: values as trees, mutable memory as a short list of blocks, and what it means that such a state stands for a state of the model. -/
/- The steps of the abstract memory: a new block, a block that is written, one that is named anew, one that nobody writes any more. -/
/- The operations on memory: what they do to the trees and the abstract memory, and that they do it in the model. -/
import Derived.Below
import Derived.Calls
import Derived.Tactics
import Derived.Scope
import Derived.Orders
import Derived.Deep.Quiet
import Derived.Laws.Cells
import Derived.Laws.Entries
import Derived.ChangeKeysEq
set_option linter.unusedVariables false
set_option linter.unusedSimpArgs false
namespace Go.Gi
open _root_.Array renaming getElem?_eq_some_iff → xv
open _root_.List renaming eq_nil_of_length_eq_zero → qq, getElem?_eq_some_iff → qf, getElem?_eq_getElem → qg, getElem?_append → xT, getElem?_set → xH, all_eq_true → xr, getElem_mem → zd
open _root_.Nat renaming add_assoc → xy, le_trans → xM, le_refl → qk
open _root_.Option.some renaming injEq → qd
open _root_.Prod.mk renaming injEq → qj
open _root_.Go.Result renaming andThen_ok → qy
open _root_.Go.Sem renaming run_bind → qN, run_pure → qO
section
class Mx where
 m:Int
set_option linter.unusedSectionVars false
variable [Mx]
open Go
inductive AV where
 | int (k:IntKind) (n:Int)
 | bool (b:Bool)
 | str (s:List UInt8)
 | nilp
 | ptr (id off:Nat)
 | fptr (cells:List AV) (off:Nat)
 | nils
 | sl (id off len sz lo:Nat) (ex:Bool)
 | fsl (cells:List AV) (len:Nat)
 | esl
 | enn
 | nilm
 | map (id:Nat)
 | func (f:FuncId) (caps:List AV)
 | nilf
 | iface (t:TypeId) (v:AV)
 | nili
 | agg (cells:List AV)
 | tup (vs:List AV)
 | yld (id:Nat)
 | bound (f:FuncId) (first:List AV)
 | unk
instance:Inhabited AV:=⟨.tup []⟩
inductive Blk where
 | row (e:TypeId) (cells:List AV)
 | map (es:List (AV × AV)) (bs:List Nat) (clock:Nat)
 | iter (is:List AV) (since:Nat) (seen:List Nat) (last:Nat)
 | loop (tms:List AV) (key:Nat) (st:LoopState) (pend:Option (Option Nat))
structure LC where
 params:Array Tmp
 assign:Code
 body:Code
abbrev HP:=List (Option Blk)
structure Cx where
 w:World
 n:Nat
 β:Nat→Nat × Nat
 Fz:Nat→Prop
 lc:Nat→LC
 s0:Nat
def one:Value→Bool
 | .agg _ | .tuple _=>false
 | _=>true
def NilS (v:Value):Prop:=v=.slice none 0 0∨∃ a:Addr,v=.slice (some a) 0 0
mutual
def VRel (Γ:Cx):AV→Value→Prop
 | .int k n,v=>v=.int k n
 | .bool b,v=>v=.bool b
 | .str s,v=>v=.string ⟨s.toArray⟩
 | .nilp,v=>v=.pointer none
 | .ptr id off,v=>id<Γ.n∧v=.pointer (some ⟨(Γ.β id).1,(Γ.β id).2+off,none⟩)
 | .fptr cs off,v => ∃ b o,v=.pointer (some ⟨b,o+off,none⟩)∧Γ.Fz b∧CellsAt Γ cs b o
 | .nils,v=>v=.slice none 0 0
 | .sl id off len sz lo ex, v => id < Γ.n ∧ ∃ o c e m, v = .slice (some ⟨(Γ.β id).1, o, none⟩) len c ∧ (c = 0 ∨ o = (Γ.β id).2 + off) ∧ len ≤ lo ∧ lo ≤ c ∧ (ex = true → c = lo) ∧
   Γ.w.shape? (Γ.β id).1=some (e,m)∧o+c*sz≤m
 | .fsl cs len,v=>(NilS v∧len=0∧cs=[])∨∃ b o c,v=.slice (some ⟨b,o,none⟩) len c∧len≤c∧(cs=[]∨Γ.Fz b)∧CellsAt Γ cs b o
 | .esl,v=>NilS v
 | .enn,v => ∃ (a:Addr) (c:Nat),v=.slice (some a) 0 c∧(c=0∨a.spot=none)
 | .nilm,v=>v=.map none
 | .map id,v=>id<Γ.n∧v=.map (some (Γ.β id).1)
 | .func f cs,v => ∃ vs,v=.func (.func f) #[] ⟨vs⟩∧VRels Γ cs vs
 | .nilf,v=>v=.nilFunc
 | .iface t a,v => ∃ u,v=.iface t u∧VRel Γ a u
 | .nili,v=>v=.nilIface
 | .unk,v => ∃ k n,v=.int k n
 | .agg cs,v => ∃ vs,v=.agg ⟨vs⟩∧VRels Γ cs vs∧∀ u ∈ vs,one u=true
 | .tup cs,v => ∃ vs,v=.tuple ⟨vs⟩∧VRels Γ cs vs
 | .yld id,v=>id<Γ.n∧v=.func (.yield (Γ.β id).1) #[] #[]
 | .bound f cs,v => ∃ vs,v=.func (.func f) ⟨vs⟩ #[]∧VRels Γ cs vs
def VRels (Γ:Cx):List AV→List Value→Prop
 | [],vs=>vs=[]
 | a :: as,vs => ∃ v vs',vs=v :: vs'∧VRel Γ a v∧VRels Γ as vs'
def CellsAt (Γ:Cx):List AV→Nat→Nat→Prop
 | [],_,_=>True
 | a :: as,b,o=>(∃ v,Γ.w.cell? ⟨b,o,none⟩=some v∧one v=true∧VRel Γ a v)∧CellsAt Γ as b (o+1)
end
theorem VRels.length {Γ:Cx}:∀ {as:List AV} {vs:List Value},VRels Γ as vs→as.length=vs.length
 | [],vs,h=>by simp only[VRels] at h; simp[h]
 | a :: as,vs,h=>by
  simp only[VRels] at h
  obtain⟨v,vs',rfl,_,h⟩:=h
  simp[h.length]
theorem VRels.get {Γ:Cx}:∀ {as:List AV} {vs:List Value},VRels Γ as vs→∀ i,VRel Γ (as.getD i (.tup [])) (vs.getD i undef)
 | [],vs,h,i=>by simp only[VRels] at h; subst h; simp[VRel,VRels,undef]
 | a :: as,vs,h,i=>by
  simp only[VRels] at h
  obtain⟨v,vs',rfl,hv,h⟩:=h
  cases i with
  | zero=>simpa using hv
  | succ i=>simpa using h.get i
theorem VRels.set {Γ:Cx} {a:AV} {v:Value} (hv:VRel Γ a v):∀ {as:List AV} {vs:List Value},VRels Γ as vs→∀ i,VRels Γ (as.set i a) (vs.set i v)
 | [],vs,h,i=>by simp only[VRels] at h; subst h; simp[VRels]
 | a' :: as,vs,h,i=>by
  simp only[VRels] at h
  obtain⟨v',vs',rfl,hv',h⟩:=h
  cases i with
  | zero=>simp only[List.set_cons_zero,VRels]; exact⟨_,_,rfl,hv,h⟩
  | succ i=>simp only[List.set_cons_succ,VRels]; exact⟨_,_,rfl,hv',VRels.set hv h i⟩
theorem VRels.append {Γ:Cx}:∀ {as bs:List AV} {vs us:List Value},VRels Γ as vs→VRels Γ bs us→VRels Γ (as++bs) (vs++us)
 | [],bs,vs,us,h,k=>by simp only[VRels] at h; subst h; simpa using k
 | a :: as,bs,vs,us,h,k=>by
  simp only[VRels] at h
  obtain⟨v,vs',rfl,hv,h⟩:=h
  simp only[List.cons_append,VRels]
  exact⟨_,_,rfl,hv,h.append k⟩
theorem VRels.take {Γ:Cx}:∀ {as:List AV} {vs:List Value},VRels Γ as vs→∀ n,VRels Γ (as.take n) (vs.take n)
 | [],vs,h,n=>by simp only[VRels] at h; subst h; simp[VRels]
 | a :: as,vs,h,n=>by
  simp only[VRels] at h
  obtain⟨v,vs',rfl,hv,h⟩:=h
  cases n with
  | zero=>simp[VRels]
  | succ n=>simp only[List.take_succ_cons,VRels]; exact⟨_,_,rfl,hv,h.take n⟩
theorem VRels.drop {Γ:Cx}:∀ {as:List AV} {vs:List Value},VRels Γ as vs→∀ n,VRels Γ (as.drop n) (vs.drop n)
 | [],vs,h,n=>by simp only[VRels] at h; subst h; simp[VRels]
 | a :: as,vs,h,n=>by
  have h0:=h
  simp only[VRels] at h
  obtain⟨v,vs',rfl,hv,h⟩:=h
  cases n with
  | zero=>simpa using h0
  | succ n=>simpa using h.drop n
theorem VRels.erase {Γ:Cx}:∀ {as:List AV} {vs:List Value},VRels Γ as vs→∀ n,VRels Γ (as.eraseIdx n) (vs.eraseIdx n)
 | [],vs,h,n=>by simp only[VRels] at h; subst h; simp[VRels]
 | a :: as,vs,h,n=>by
  simp only[VRels] at h
  obtain⟨v,vs',rfl,hv,h⟩:=h
  cases n with
  | zero=>simpa using h
  | succ n=>simp only[List.eraseIdx_cons_succ,VRels]; exact⟨_,_,rfl,hv,h.erase n⟩
theorem VRels.reps {Γ:Cx} {a:AV} {v:Value} (h:VRel Γ a v):∀ n,VRels Γ (List.replicate n a) (List.replicate n v)
 | 0=>by simp[VRels]
 | n+1=>by simp only[List.replicate_succ,VRels]; exact⟨_,_,rfl,h,VRels.reps h n⟩
structure Le (Γ Δ:Cx):Prop where
 n:Γ.n≤Δ.n
 β:∀ i,i<Γ.n→Δ.β i=Γ.β i
 fz:∀ b,Γ.Fz b→Δ.Fz b
 kept:∀ b,Γ.Fz b→Δ.w.heap[b]? = Γ.w.heap[b]?
 shape:∀ b s,Γ.w.shape? b=some s→Δ.w.shape? b=some s
 lc:Δ.lc=Γ.lc
theorem Le.refl (Γ:Cx):Le Γ Γ:=⟨qk _,fun _ _=>rfl,fun _ h=>h,fun _ _=>rfl,fun _ _ h=>h,rfl⟩
theorem Le.trans {Γ Δ Θ:Cx} (h:Le Γ Δ) (k:Le Δ Θ):Le Γ Θ:=
 ⟨xM h.n k.n,fun i hi=>(k.β i (Nat.lt_of_lt_of_le hi h.n)).trans (h.β i hi),fun b hb=>k.fz b (h.fz b hb),
  fun b hb=>(k.kept b (h.fz b hb)).trans (h.kept b hb),fun b s hs=>k.shape b s (h.shape b s hs),k.lc.trans h.lc⟩
theorem cell?_eq {w w':World} {b:Nat} (h:w'.heap[b]? = w.heap[b]?) (o:Nat):w'.cell? ⟨b,o,none⟩=w.cell? ⟨b,o,none⟩:=by
 simp[World.cell?,h]
mutual
theorem VRel.le {Γ Δ:Cx} (h:Le Γ Δ):∀ {a:AV} {v:Value},VRel Γ a v→VRel Δ a v
 | .int k n,v,hv | .bool _,v,hv | .str _,v,hv | .nilp,v,hv | .nils,v,hv | .nilm,v,hv | .nilf,v,hv | .nili,v,hv | .unk,v,hv=>by simpa only[VRel] using hv
 | .ptr id off,v,hv=>by
  simp only[VRel] at hv ⊢
  exact⟨Nat.lt_of_lt_of_le hv.1 h.n,by rw[h.β id hv.1]; exact hv.2⟩
 | .map id,v,hv=>by
  simp only[VRel] at hv ⊢
  exact⟨Nat.lt_of_lt_of_le hv.1 h.n,by rw[h.β id hv.1]; exact hv.2⟩
 | .yld id,v,hv=>by
  simp only[VRel] at hv ⊢
  exact⟨Nat.lt_of_lt_of_le hv.1 h.n,by rw[h.β id hv.1]; exact hv.2⟩
 | .bound f cs,v,hv=>by
  simp only[VRel] at hv ⊢
  obtain⟨vs,rfl,hvs⟩:=hv
  exact⟨vs,rfl,VRels.le h hvs⟩
 | .fptr cs off,v,hv=>by
  simp only[VRel] at hv ⊢
  obtain⟨b,o,rfl,hb,hc⟩:=hv
  exact⟨b,o,rfl,h.fz b hb,CellsAt.le h (fun o=>cell?_eq (h.kept b hb) o) hc⟩
 | .sl id off len sz lo ex,v,hv=>by
  simp only[VRel] at hv ⊢
  obtain⟨hi,o,c,e,m,hv,ho,h1,h2,h3,h4,h5⟩:=hv
  refine⟨Nat.lt_of_lt_of_le hi h.n,o,c,e,m,?_⟩
  rw[h.β id hi]
  exact⟨hv,ho,h1,h2,h3,h.shape _ _ h4,h5⟩
 | .fsl cs len,v,hv=>by
  simp only[VRel] at hv ⊢
  rcases hv with hv|⟨b,o,c,hv,hl,hb,hc⟩
  ·exact .inl hv
  refine .inr ⟨b,o,c,hv,hl,hb.imp id (h.fz b),?_⟩
  rcases hb with rfl|hb
  ·simp[CellsAt]
  ·exact CellsAt.le h (fun o=>cell?_eq (h.kept b hb) o) hc
 | .esl,v,hv=>by simpa only[VRel] using hv
 | .enn,v,hv=>by simpa only[VRel] using hv
 | .func f cs,v,hv=>by
  simp only[VRel] at hv ⊢
  obtain⟨vs,rfl,hvs⟩:=hv
  exact⟨vs,rfl,VRels.le h hvs⟩
 | .iface t a,v,hv=>by
  simp only[VRel] at hv ⊢
  obtain⟨u,rfl,hu⟩:=hv
  exact⟨u,rfl,VRel.le h hu⟩
 | .agg cs,v,hv=>by
  simp only[VRel] at hv ⊢
  obtain⟨vs,rfl,hvs,h1⟩:=hv
  exact⟨vs,rfl,VRels.le h hvs,h1⟩
 | .tup cs,v,hv=>by
  simp only[VRel] at hv ⊢
  obtain⟨vs,rfl,hvs⟩:=hv
  exact⟨vs,rfl,VRels.le h hvs⟩
theorem VRels.le {Γ Δ:Cx} (h:Le Γ Δ):∀ {as:List AV} {vs:List Value},VRels Γ as vs→VRels Δ as vs
 | [],vs,hv=>by simpa only[VRels] using hv
 | a :: as,vs,hv=>by
  simp only[VRels] at hv ⊢
  obtain⟨v,vs',rfl,h1,h2⟩:=hv
  exact⟨v,vs',rfl,VRel.le h h1,VRels.le h h2⟩
theorem CellsAt.le {Γ Δ:Cx} (h:Le Γ Δ) {b:Nat} (hb:∀ o,Δ.w.cell? ⟨b,o,none⟩=Γ.w.cell? ⟨b,o,none⟩):∀ {as:List AV} {o:Nat},CellsAt Γ as b o→CellsAt Δ as b o
 | [],o,hv=>by simp[CellsAt]
 | a :: as,o,hv=>by
  simp only[CellsAt] at hv ⊢
  obtain⟨⟨v,h1,h2,h3⟩,h4⟩:=hv
  exact⟨⟨v,(hb o).trans h1,h2,VRel.le h h3⟩,CellsAt.le h hb h4⟩
end
theorem CellsAt.get {Γ:Cx} {b:Nat}:∀ {as:List AV} {o:Nat},CellsAt Γ as b o→∀ i a,as[i]? = some a→∃ v,Γ.w.cell? ⟨b,o+i,none⟩=some v∧one v=true∧VRel Γ a v
 | [],o,_,i,a,ha=>by simp at ha
 | a' :: as,o,h,i,a,ha=>by
  simp only[CellsAt] at h
  cases i with
  | zero=>simp at ha; subst ha; simpa using h.1
  | succ i =>
   have:=h.2.get i a (by simpa using ha)
   rwa[xy,Nat.add_comm 1 i] at this
theorem CellsAt.of {Γ:Cx} {b:Nat}:∀ {as:List AV} {o:Nat},(∀ i a,as[i]? = some a→∃ v,Γ.w.cell? ⟨b,o+i,none⟩=some v∧one v=true∧VRel Γ a v)→CellsAt Γ as b o
 | [],o,_=>by simp[CellsAt]
 | a :: as,o,h=>by
  simp only[CellsAt]
  refine⟨by simpa using h 0 a rfl,CellsAt.of fun i x hx=>?_⟩
  have:=h (i+1) x (by simpa using hx)
  rwa[xy,Nat.add_comm 1 i]
theorem CellsAt.drop {Γ:Cx} {b:Nat} {as:List AV} {o:Nat} (h:CellsAt Γ as b o) (n:Nat):CellsAt Γ (as.drop n) b (o+n):=
 CellsAt.of fun i a ha=>by
  rw[List.getElem?_drop] at ha
  have:=h.get (n+i) a ha
  rwa[← xy] at this
theorem CellsAt.take {Γ:Cx} {b:Nat} {as:List AV} {o:Nat} (h:CellsAt Γ as b o) (n:Nat):CellsAt Γ (as.take n) b o:=
 CellsAt.of fun i a ha=>by
  rw[List.getElem?_take] at ha
  split at ha
  ·exact h.get i a ha
  ·cases ha
theorem CellsAt.append {Γ:Cx} {b:Nat} {as bs:List AV} {o:Nat} (h:CellsAt Γ as b o) (k:CellsAt Γ bs b (o+as.length)):CellsAt Γ (as++bs) b o:=
 CellsAt.of fun i a ha=>by
  rw[xT] at ha
  split at ha
  ·exact h.get i a ha
  ·rename_i hlt
   have:=k.get _ a ha
   rwa[xy,show as.length+(i - as.length)=i by omega] at this
theorem one_oneCell {v:Value} (h:one v=true):v.cells = #[v]:=by
 cases v<;>simp_all [one,Value.cells]
theorem CellsAt.list {Γ:Cx} {b:Nat}:∀ {as:List AV} {o:Nat},CellsAt Γ as b o→∃ vs,VRels Γ as vs∧vs.length=as.length∧(∀ v ∈ vs,one v=true)∧∀ j v,vs[j]? = some v→Γ.w.cell? ⟨b,o+j,none⟩=some v
 | [],o,_=>⟨[],by simp[VRels],rfl,by simp,by simp⟩
 | a :: as,o,h=>by
  simp only[CellsAt] at h
  obtain⟨⟨v,h1,h2,h3⟩,h4⟩:=h
  obtain⟨vs,k1,k2,k3,k4⟩:=h4.list
  refine⟨v :: vs,by simp only[VRels]; exact⟨_,_,rfl,h3,k1⟩,by simp[k2],?_,?_⟩
  ·intro u hu
   rcases List.mem_cons.1 hu with rfl|hu
   ·exact h2
   ·exact k3 u hu
  ·intro j u hu
   cases j with
   | zero=>simp at hu; subst hu; simpa using h1
   | succ j=>have:=k4 j u (by simpa using hu); rwa[xy,Nat.add_comm 1 j] at this
def pendC:Option (Option Nat)→Option Code
 | none=>none
 | some none=>some .ret
 | some (some id)=>some (.exit id)
def IterOk (o:Option Obj) (v:Value) (since:Nat) (seen:List Nat) (last:Nat):Prop:=(∃ mo,v=.map mo∧o=some (.mapIter mo since ⟨seen⟩ last))∨∃ s,v=.string s∧o=some (.stringIter s since)
def BRel (Γ:Cx) (b:Nat × Nat):Blk→Prop
 | .row e cs=>(∃ c fr,Γ.w.heap[b.1]? = some (.cells c e fr)∧fr.1≤fr.2∧∀ o,o<c.size→¬ (fr.1≤o∧o<fr.2))∧CellsAt Γ cs b.1 b.2
 | .iter is since seen last => ∃ v,(IterOk Γ.w.heap[b.1]? v since seen last∧b.2=0)∧VRels Γ is [v]
 | .map es bs clock0 => ∃ ms clock, Γ.w.heap[b.1]? = some (.map ms clock) ∧ (ms.toList.map (·.born)).Nodup ∧ (∀ m ∈ ms.toList, m.born < clock) ∧
   VRels Γ (es.map (·.1)) (ms.toList.map (·.key))∧VRels Γ (es.map (·.2)) (ms.toList.map (·.val))∧ms.toList.map (·.born)=bs∧clock=clock0
 | .loop tms key st pend => ∃ (fn:FuncId) (vs:List Value) (d:Nat),Γ.w.heap[b.1]? = some (.loop { state:=st,pending:=pendC pend,fn:=fn,tmps:=⟨vs⟩,params:=(Γ.lc key).params,assign:=(Γ.lc key).assign,body:=(Γ.lc key).body,defers:=d })∧VRels Γ tms vs
def globals:List (Nat × List AV):=[(0,[AV.int .i64 Mx.m]),(1,List.map (fun (n:Int)=>AV.int .u8 n) (List.replicate 128 240++List.replicate 66 241++List.replicate 30 2++[19]++List.replicate 12 3++[35,3,3,52,4,4,4,68]++List.replicate 11 241)),(2,List.map (fun (n:Int)=>AV.int .u8 n) ([128,191,160,191,128,159,144,191,128,143]++List.replicate 22 0))]
def globalsI:List Nat:=[]
structure GOk (Γ:Cx):Prop where
 at_:∀ x ∈ globals,VRel Γ (.fptr x.2 0) (.pointer (some ⟨x.1,0,none⟩))
 int:∀ g ∈ globalsI,Γ.Fz g∧∃ n:Int,Γ.w.cell? ⟨g,0,none⟩=some (.int .i64 n)
theorem GOk.le {Γ Δ:Cx} (h:Le Γ Δ) (g:GOk Γ):GOk Δ:=⟨fun x hx=>(g.at_ x hx).le h,fun x hx=>⟨h.fz x (g.int x hx).1,by
 obtain⟨h1,n,h2⟩:=g.int x hx
 exact⟨n,(cell?_eq (h.kept x h1) 0).trans h2⟩⟩⟩
def litA:AV→Bool
 | .int _ _ | .bool _ | .str _ | .nilp | .nils | .nilm | .nilf | .nili=>true
 | _=>false
theorem litA_rel {Γ Γ':Cx}:∀ {a:AV} {v:Value},litA a=true→VRel Γ a v→VRel Γ' a v
 | .int k n,_,_,h | .bool b,_,_,h | .str s,_,_,h | .nilp,_,_,h | .nils,_,_,h | .nilm,_,_,h | .nilf,_,_,h | .nili,_,_,h=>by simpa only[VRel] using h
set_option maxRecDepth 20000 in
theorem globals_lit:globals.all (fun x=>x.2.all litA)=true:=rfl
theorem GOk.same {Γ Γ':Cx} (g:GOk Γ) (hw:Γ'.w=Γ.w) (hz:∀ b,Γ.Fz b→Γ'.Fz b):GOk Γ':=by
 refine⟨fun x hx=>?_,fun x hx=>⟨hz x (g.int x hx).1,by rw[hw]; exact (g.int x hx).2⟩⟩
 have h:=g.at_ x hx
 simp only[VRel] at h ⊢
 obtain⟨b,o,h1,h2,h3⟩:=h
 refine⟨b,o,h1,hz b h2,CellsAt.of fun i a ha=>?_⟩
 obtain⟨v,k1,k2,k3⟩:=h3.get i a ha
 exact⟨v,by rw[hw]; exact k1,k2,litA_rel (xr.1 (xr.1 globals_lit x hx) a (List.mem_of_getElem? ha)) k3⟩
structure HSim (Γ:Cx) (hp:HP):Prop where
 len:hp.length=Γ.n
 blk:∀ i x,hp[i]? = some (some x)→BRel Γ (Γ.β i) x∧¬ Γ.Fz (Γ.β i).1∧(Γ.β i).1<Γ.w.heap.size
 inj:∀ i j x y,hp[i]? = some (some x)→hp[j]? = some (some y)→(Γ.β i).1=(Γ.β j).1→i=j
 fz:∀ b,Γ.Fz b→b<Γ.w.heap.size
 gl:GOk Γ
def Live (Γ:Cx) (hp:HP) (b:Nat):Prop:=∃ i x,hp[i]? = some (some x)∧(Γ.β i).1=b
structure Ev (Γ:Cx) (hp:HP) (Δ:Cx) (hp':HP):Prop where
 le:Le Γ Δ
 os:Δ.w.os=Γ.w.os
 tape:Δ.w.tape=Γ.w.tape
 output:Δ.w.output=Γ.w.output
 size:Γ.w.heap.size≤Δ.w.heap.size
 frame:∀ b,b<Γ.w.heap.size→¬ Live Γ hp b→Δ.w.heap[b]? = Γ.w.heap[b]?
 live:∀ b,Live Δ hp' b→Γ.w.heap.size≤b∨Live Γ hp b
 fz:∀ b,Δ.Fz b→Γ.Fz b∨Γ.w.heap.size≤b∨Live Γ hp b
 s0:Δ.s0=Γ.s0
theorem Ev.refl (Γ:Cx) (hp:HP):Ev Γ hp Γ hp:=
 ⟨Le.refl Γ,rfl,rfl,rfl,qk _,fun _ _ _=>rfl,fun _ h=>.inr h,fun _ h=>.inl h,rfl⟩
theorem Ev.trans {Γ Δ Θ:Cx} {h1 h2 h3:HP} (p:Ev Γ h1 Δ h2) (q:Ev Δ h2 Θ h3):Ev Γ h1 Θ h3 where
 le:=p.le.trans q.le
 os:=q.os.trans p.os
 tape:=q.tape.trans p.tape
 output:=q.output.trans p.output
 size:=xM p.size q.size
 frame b hb hn:=by
  have:=p.size
  refine (q.frame b (by omega) fun hl=>?_).trans (p.frame b hb hn)
  rcases p.live b hl with h|h
  ·omega
  ·exact hn h
 live b hb:=by
  have:=p.size
  rcases q.live b hb with h|h
  ·exact .inl (by omega)
  ·exact p.live b h
 fz b hb:=by
  have:=p.size
  rcases q.fz b hb with h|h|h
  ·exact p.fz b h
  ·exact .inr (.inl (by omega))
  ·rcases p.live b h with h|h
   ·exact .inr (.inl h)
   ·exact .inr (.inr h)
 s0:=q.s0.trans p.s0
def MarksOk (Γ:Cx) (hp:HP) (ds:List Deferred):Prop:=Γ.s0≤Γ.w.heap.size∧∃ ks:List Nat,ds=ks.map (fun k=>{ target:=.collected k,args:=#[] })∧ks.Nodup∧∀ k ∈ ks,Γ.w.heap[k]? = some (.deferred (some []))∧¬ Live Γ hp k∧¬ Γ.Fz k∧Γ.s0≤k
theorem MarksOk.nil {Γ:Cx} (h:Γ.s0≤Γ.w.heap.size) (hp:HP):MarksOk Γ hp []:=⟨h,[],rfl,List.nodup_nil,fun k hk=>by cases hk⟩
theorem MarksOk.ev {Γ Δ:Cx} {hp hp':HP} {ds:List Deferred} (h:MarksOk Γ hp ds) (e:Ev Γ hp Δ hp'):MarksOk Δ hp' ds:=by
 obtain⟨h0,ks,h1,h2,h3⟩:=h
 refine⟨by rw[e.s0]; exact xM h0 e.size,ks,h1,h2,fun k hk=>?_⟩
 obtain⟨q1,q2,q3,q4⟩:=h3 k hk
 have hlt:k<Γ.w.heap.size:=(xv.1 q1).1
 refine⟨(e.frame k hlt q2).trans q1,fun hl=>?_,fun hf=>?_,by rw[e.s0]; exact q4⟩
 ·rcases e.live k hl with h|h
  ·omega
  ·exact q2 h
 ·rcases e.fz k hf with h|h|h
  ·exact q3 h
  ·omega
  ·exact q2 h
def Cx.drewN (Γ:Cx) (m:Nat):Cx:={ Γ with w:={ Γ.w with drawn:=Γ.w.drawn+m } }
theorem Le.drewN (Γ:Cx) (m:Nat):Le Γ (Γ.drewN m):=⟨qk _,fun _ _=>rfl,fun _ h=>h,fun _ _=>rfl,fun _ _ h=>h,rfl⟩
theorem Ev.drewN (Γ:Cx) (hp:HP) (m:Nat):Ev Γ hp (Γ.drewN m) hp:=
 ⟨Le.drewN Γ m,rfl,rfl,rfl,qk _,fun _ _ _=>rfl,fun _ h=>.inr h,fun _ h=>.inl h,rfl⟩
theorem BRel.le {Γ Δ:Cx} (h:Le Γ Δ) {b:Nat × Nat} (hb:Δ.w.heap[b.1]? = Γ.w.heap[b.1]?):∀ {x:Blk},BRel Γ b x→BRel Δ b x
 | .row e cs,hx=>by
  simp only[BRel] at hx ⊢
  obtain⟨⟨c,fr,h1,h2⟩,h3⟩:=hx
  exact⟨⟨c,fr,hb.trans h1,h2⟩,CellsAt.le h (fun o=>cell?_eq hb o) h3⟩
 | .iter is since seen last,hx=>by
  simp only[BRel] at hx ⊢
  obtain⟨mo,h1,h2⟩:=hx
  exact⟨mo,⟨by rw[hb]; exact h1.1,h1.2⟩,h2.le h⟩
 | .map es bs clock0,hx=>by
  simp only[BRel] at hx ⊢
  obtain⟨ms,clock,h1,h2,h3,h4,h5,h6⟩:=hx
  exact⟨ms,clock,hb.trans h1,h2,h3,h4.le h,h5.le h,h6⟩
 | .loop tms key st pend,hx=>by
  simp only[BRel] at hx ⊢
  obtain⟨fn,vs,d,h1,h2⟩:=hx
  exact⟨fn,vs,d,by rw[h.lc]; exact hb.trans h1,h2.le h⟩
theorem HSim.drewN {Γ:Cx} {hp:HP} (h:HSim Γ hp) (m:Nat):HSim (Γ.drewN m) hp:=
 ⟨h.len,fun i x hx=>⟨BRel.le (Le.drewN Γ m) rfl (h.blk i x hx).1,(h.blk i x hx).2⟩,h.inj,h.fz,h.gl.le (Le.drewN Γ m)⟩
end
section
set_option linter.unusedSectionVars false
variable [Mx]
open Go
def setB (w:World) (b:Nat) (o:Obj):World:={ w with heap:=w.heap.setIfInBounds b o }
theorem setB_ne (w:World) {b b':Nat} (o:Obj) (h:b'≠b):(setB w b o).heap[b']? = w.heap[b']?:=by
 simp only[setB,Array.getElem?_setIfInBounds]
 rw[if_neg (fun e=>h e.symm)]
theorem setB_eq (w:World) {b:Nat} (o:Obj) (h:b<w.heap.size):(setB w b o).heap[b]? = some o:=by
 simp only[setB,Array.getElem?_setIfInBounds]
 simp[h]
theorem setB_size (w:World) (b:Nat) (o:Obj):(setB w b o).heap.size=w.heap.size:=by simp[setB]
def Cx.setB (Γ:Cx) (b:Nat) (o:Obj):Cx:={ Γ with w:=Gi.setB Γ.w b o }
def Cx.know (Γ:Cx) (p:Nat × Nat):Cx:={ Γ with n:=Γ.n+1,β:=fun i=>if i=Γ.n then p else Γ.β i }
def Cx.alloc (Γ:Cx) (o:Obj):Cx:={ Γ with w:=Γ.w.alloc o }
def Cx.shut (Γ:Cx) (b:Nat):Cx:={ Γ with Fz:=fun c=>Γ.Fz c∨c=b }
theorem Le.setB {Γ:Cx} {b:Nat} {o:Obj} (hb:¬ Γ.Fz b) (hs:∀ s,Γ.w.shape? b=some s→(Gi.setB Γ.w b o).shape? b=some s):Le Γ (Γ.setB b o):=
 ⟨qk _,fun _ _=>rfl,fun _ h=>h,fun c hc=>setB_ne _ _ (fun e=>hb (e ▸ hc)),fun c s h=>by
  by_cases e:c=b
  ·subst e; exact hs s h
  ·simp only[World.shape?,Cx.setB] at h ⊢
   rw[setB_ne _ _ e]; exact h,rfl⟩
theorem Le.know (Γ:Cx) (p:Nat × Nat):Le Γ (Γ.know p):=
 ⟨by simp[Cx.know],fun i hi=>by simp[Cx.know,Nat.ne_of_lt hi],fun _ h=>h,fun _ _=>rfl,fun _ _ h=>h,rfl⟩
theorem Le.shut (Γ:Cx) (b:Nat):Le Γ (Γ.shut b):=⟨qk _,fun _ _=>rfl,fun _ h=>.inl h,fun _ _=>rfl,fun _ _ h=>h,rfl⟩
theorem alloc_old (w:World) (o:Obj) {b:Nat} (h:b<w.heap.size):(w.alloc o).heap[b]? = w.heap[b]?:=by
 show (w.heap.push o)[b]? = _
 rw[Array.getElem?_push,if_neg (by omega)]
theorem alloc_new (w:World) (o:Obj):(w.alloc o).heap[w.heap.size]? = some o:=by
 show (w.heap.push o)[w.heap.size]? = _
 simp
theorem alloc_size (w:World) (o:Obj):(w.alloc o).heap.size=w.heap.size+1:=by
 show (w.heap.push o).size=_
 simp
theorem shape_lt {w:World} {b:Nat} {s:TypeId × Nat} (h:w.shape? b=some s):b<w.heap.size:=by
 rcases Nat.lt_or_ge b w.heap.size with h' | h'
 ·exact h'
 ·simp[World.shape?,Array.getElem?_eq_none h'] at h
theorem Le.alloc {Γ:Cx} (hf:∀ b,Γ.Fz b→b<Γ.w.heap.size) (o:Obj):Le Γ (Γ.alloc o):=
 ⟨qk _,fun _ _=>rfl,fun _ h=>h,fun c hc=>alloc_old _ _ (hf c hc),fun c s h=>by
  have:=shape_lt h
  simp only[World.shape?,Cx.alloc] at h ⊢
  rw[alloc_old _ _ this]; exact h,rfl⟩
theorem HP.get_snoc {hp:HP} {x:Option Blk} {i:Nat} {y:Blk} (h:(hp++[x])[i]? = some (some y)):(i=hp.length∧x=some y)∨hp[i]? = some (some y):=by
 rw[xT] at h
 split at h
 ·exact .inr h
 ·rename_i hi
  have:i - hp.length=0:=by
   rcases Nat.eq_zero_or_pos (i - hp.length) with e|e
   ·exact e
   ·rw[List.getElem?_eq_none (by simp; omega)] at h; cases h
  rw[this] at h
  simp at h
  exact .inl ⟨by omega,h⟩
theorem HP.lt {hp:HP} {i:Nat} {x:Option Blk} (h:hp[i]? = some x):i<hp.length:=(qf.1 h).1
theorem HSim.new {Γ:Cx} {hp:HP} (h:HSim Γ hp) (o:Obj) (x:Blk) (hx:BRel ((Γ.alloc o).know (Γ.w.heap.size,0)) (Γ.w.heap.size,0) x) :
  HSim ((Γ.alloc o).know (Γ.w.heap.size,0)) (hp++[some x])∧Ev Γ hp ((Γ.alloc o).know (Γ.w.heap.size,0)) (hp++[some x]):=by
 have le:Le Γ ((Γ.alloc o).know (Γ.w.heap.size,0)):=(Le.alloc h.fz o).trans (Le.know _ _)
 have old:∀ (i:Nat) (y:Blk),hp[i]? = some (some y)→((Γ.alloc o).know (Γ.w.heap.size,0)).β i=Γ.β i:=fun i y hy=>le.β i (h.len ▸ HP.lt hy)
 have new:((Γ.alloc o).know (Γ.w.heap.size,0)).β hp.length=(Γ.w.heap.size,0):=by simp[Cx.know,Cx.alloc,h.len]
 refine⟨⟨by simp[h.len,Cx.know,Cx.alloc],?_,?_,?_,h.gl.le le⟩,⟨le,rfl,rfl,rfl,?_,?_,?_,?_,rfl⟩⟩
 ·intro i y hy
  rcases HP.get_snoc hy with ⟨rfl,e⟩|hy
  ·cases e
   rw[new]
   refine⟨hx,fun hf=>?_,?_⟩
   ·have:=h.fz _ hf; simp at this
   ·simp[Cx.know,Cx.alloc]
  ·rw[old i y hy]
   obtain⟨h1,h2,h3⟩:=h.blk i y hy
   exact⟨BRel.le le (alloc_old _ _ h3) h1,h2,by simp[Cx.know,Cx.alloc]; omega⟩
 ·intro i j y z hy hz e
  rcases HP.get_snoc hy with ⟨rfl,ey⟩|hy<;>rcases HP.get_snoc hz with ⟨rfl,ez⟩|hz
  ·rfl
  ·rw[new,old j z hz] at e; have:=(h.blk j z hz).2.2; simp at e; omega
  ·rw[new,old i y hy] at e; have:=(h.blk i y hy).2.2; simp at e; omega
  ·rw[old i y hy,old j z hz] at e; exact h.inj i j y z hy hz e
 ·intro b hb; have:=h.fz b hb; simp[Cx.know,Cx.alloc]; omega
 ·simp[Cx.know,Cx.alloc]
 ·intro b hb _; exact alloc_old _ _ hb
 ·rintro b ⟨i,y,hy,rfl⟩
  rcases HP.get_snoc hy with ⟨rfl,e⟩|hy
  ·rw[new]; exact .inl (qk _)
  ·rw[old i y hy]; exact .inr ⟨i,y,hy,rfl⟩
 ·intro b hb; exact .inl hb
theorem HSim.newFz {Γ:Cx} {hp:HP} (h:HSim Γ hp) (o:Obj):HSim ((Γ.alloc o).shut Γ.w.heap.size) hp∧Ev Γ hp ((Γ.alloc o).shut Γ.w.heap.size) hp:=by
 have le:Le Γ ((Γ.alloc o).shut Γ.w.heap.size):=(Le.alloc h.fz o).trans (Le.shut _ _)
 refine⟨⟨h.len,?_,h.inj,?_,h.gl.le le⟩,⟨le,rfl,rfl,rfl,?_,?_,?_,?_,rfl⟩⟩
 ·intro i y hy
  obtain⟨h1,h2,h3⟩:=h.blk i y hy
  refine⟨BRel.le le (alloc_old _ _ h3) h1,fun hf=>?_,by simp[Cx.shut,Cx.alloc]; omega⟩
  rcases hf with hf|hf
  ·exact h2 hf
  ·have h3':(Γ.β i).1<Γ.w.heap.size:=h3
   have hf':(Γ.β i).1=Γ.w.heap.size:=hf
   omega
 ·intro b hb
  simp only[Cx.shut,Cx.alloc,alloc_size]
  rcases hb with hb|hb
  ·have:=h.fz b hb; omega
  ·omega
 ·simp[Cx.shut,Cx.alloc]
 ·intro b hb _; exact alloc_old _ _ hb
 ·intro b hb; exact .inr hb
 ·intro b hb
  rcases hb with hb|hb
  ·exact .inl hb
  ·exact .inr (.inl (by omega))
theorem HSim.write {Γ:Cx} {hp:HP} (h:HSim Γ hp) {i:Nat} {x:Blk} (hi:hp[i]? = some (some x)) (o:Obj) (x':Blk)
  (hs:∀ s,Γ.w.shape? (Γ.β i).1=some s→(setB Γ.w (Γ.β i).1 o).shape? (Γ.β i).1=some s)
  (hx:BRel (Γ.setB (Γ.β i).1 o) (Γ.β i) x'):HSim (Γ.setB (Γ.β i).1 o) (hp.set i (some x'))∧Ev Γ hp (Γ.setB (Γ.β i).1 o) (hp.set i (some x')):=by
 obtain⟨h1,h2,h3⟩:=h.blk i x hi
 have le:Le Γ (Γ.setB (Γ.β i).1 o):=Le.setB h2 hs
 have get:∀ (j:Nat) (y:Blk),(hp.set i (some x'))[j]? = some (some y)→(j=i∧y=x')∨(j≠i∧hp[j]? = some (some y)):=by
  intro j y hy
  rw[xH] at hy
  split at hy
  ·rename_i e; subst e; simp[HP.lt hi] at hy; exact .inl ⟨rfl,hy.symm⟩
  ·rename_i e; exact .inr ⟨fun e'=>e e'.symm,hy⟩
 have was:∀ (j:Nat) (y:Blk),(hp.set i (some x'))[j]? = some (some y)→∃ z,hp[j]? = some (some z):=by
  intro j y hy
  rcases get j y hy with ⟨rfl,_⟩|⟨_,hy⟩
  ·exact⟨x,hi⟩
  ·exact⟨y,hy⟩
 refine⟨⟨by simp[h.len,Cx.setB],?_,?_,?_,h.gl.le le⟩,⟨le,rfl,rfl,rfl,?_,?_,?_,?_,rfl⟩⟩
 ·intro j y hy
  rcases get j y hy with ⟨rfl,rfl⟩|⟨hne,hy⟩
  ·exact⟨hx,h2,by simp only[Cx.setB,setB_size]; exact h3⟩
  ·obtain⟨k1,k2,k3⟩:=h.blk j y hy
   refine⟨BRel.le le (setB_ne _ _ fun e=>hne (h.inj j i y x hy hi e)) k1,k2,by simp only[Cx.setB,setB_size]; exact k3⟩
 ·intro j k y z hy hz e
  obtain⟨y',hy'⟩:=was j y hy
  obtain⟨z',hz'⟩:=was k z hz
  exact h.inj j k y' z' hy' hz' e
 ·intro b hb; simp only[Cx.setB,setB_size]; exact h.fz b hb
 ·simp[Cx.setB,setB_size]
 ·intro b hb hn; exact setB_ne _ _ fun e=>hn ⟨i,x,hi,e.symm⟩
 ·rintro b ⟨j,y,hy,rfl⟩
  obtain⟨y',hy'⟩:=was j y hy
  exact .inr ⟨j,y',hy',rfl⟩
 ·intro b hb; exact .inl hb
theorem HSim.rename {Γ:Cx} {hp:HP} (h:HSim Γ hp) {i:Nat} {x:Blk} (hi:hp[i]? = some (some x)) (p:Nat × Nat) (hp1:p.1=(Γ.β i).1) (x':Blk)
  (hx:BRel (Γ.know p) p x'):HSim (Γ.know p) (hp.set i none++[some x'])∧Ev Γ hp (Γ.know p) (hp.set i none++[some x']):=by
 have le:Le Γ (Γ.know p):=Le.know _ _
 have hl:(hp.set i none).length=hp.length:=by simp
 have get:∀ (j:Nat) (y:Blk),(hp.set i none++[some x'])[j]? = some (some y)→(j=hp.length∧y=x')∨(j≠i∧hp[j]? = some (some y)):=by
  intro j y hy
  rcases HP.get_snoc hy with ⟨rfl,e⟩|hy
  ·cases e; exact .inl ⟨hl,rfl⟩
  ·rw[xH] at hy
   split at hy
   ·rw[if_pos (HP.lt hi)] at hy; cases hy
   ·rename_i e; exact .inr ⟨fun e'=>e e'.symm,hy⟩
 have old:∀ (j:Nat) (y:Blk),hp[j]? = some (some y)→(Γ.know p).β j=Γ.β j:=fun j y hy=>le.β j (h.len ▸ HP.lt hy)
 have new:(Γ.know p).β hp.length=p:=by simp[Cx.know,h.len]
 obtain⟨h1,h2,h3⟩:=h.blk i x hi
 refine⟨⟨by simp[h.len,Cx.know],?_,?_,h.fz,h.gl.le le⟩,⟨le,rfl,rfl,rfl,qk _,fun _ _ _=>rfl,?_,fun b hb=>.inl hb,rfl⟩⟩
 ·intro j y hy
  rcases get j y hy with ⟨rfl,rfl⟩|⟨hne,hy⟩
  ·rw[new]; exact⟨hx,by rw[hp1]; exact h2,by rw[hp1]; exact h3⟩
  ·rw[old j y hy]
   obtain⟨k1,k2,k3⟩:=h.blk j y hy
   exact⟨BRel.le le rfl k1,k2,k3⟩
 ·intro j k y z hy hz e
  rcases get j y hy with ⟨ej,_⟩|⟨hne,hy'⟩<;>rcases get k z hz with ⟨ek,_⟩|⟨hne',hz'⟩
  ·omega
  ·rw[ej,new,old k z hz',hp1] at e; exact absurd (h.inj i k x z hi hz' e) (fun e=>hne' e.symm)
  ·rw[ek,new,old j y hy',hp1] at e; exact absurd (h.inj j i y x hy' hi e) hne
  ·rw[old j y hy',old k z hz'] at e; exact h.inj j k y z hy' hz' e
 ·rintro b ⟨j,y,hy,rfl⟩
  rcases get j y hy with ⟨rfl,rfl⟩|⟨hne,hy⟩
  ·rw[new,hp1]; exact .inr ⟨i,x,hi,rfl⟩
  ·rw[old j y hy]; exact .inr ⟨j,y,hy,rfl⟩
theorem HSim.forget {Γ:Cx} {hp:HP} (h:HSim Γ hp) (hp':HP) (hl:hp'.length=hp.length) (hg:∀ (i:Nat) (x:Blk),hp'[i]? = some (some x)→hp[i]? = some (some x)):HSim Γ hp'∧Ev Γ hp Γ hp':=
 ⟨⟨hl.trans h.len,fun i x hx=>h.blk i x (hg i x hx),fun i j x y hx hy e=>h.inj i j x y (hg i x hx) (hg j y hy) e,h.fz,h.gl⟩,
  ⟨Le.refl _,rfl,rfl,rfl,qk _,fun _ _ _=>rfl,fun b ⟨i,x,hx,e⟩=>.inr ⟨i,x,hg i x hx,e⟩,fun _ h=>.inl h,rfl⟩⟩
def over {α:Type} (l:List α) (o:Nat) (vs:List α):List α:=l.take o++vs++l.drop (o+vs.length)
theorem over_length {α:Type} (l:List α) (o:Nat) (vs:List α) (h:o+vs.length≤l.length):(over l o vs).length=l.length:=by
 simp[over]; omega
theorem over_nil {α:Type} (l:List α) (o:Nat):over l o []=l:=by simp[over]
theorem over_get {α:Type} (l:List α) (o:Nat) (vs:List α) (h:o≤l.length) (i:Nat):(over l o vs)[i]? = if o≤i∧i<o+vs.length then vs[i - o]? else l[i]?:=by
 have hl:(List.take o l).length=o:=by simp; omega
 simp only[over]
 rw[List.append_assoc,xT,hl]
 split
 ·rename_i h1
  rw[if_neg (by omega),List.getElem?_take,if_pos h1]
 ·rename_i h1
  rw[xT]
  split
  ·rename_i h2; rw[if_pos (by omega)]
  ·rename_i h2
   rw[if_neg (by omega),List.getElem?_drop]
   congr 1; omega
theorem over_cons {α:Type} (l:List α) (o:Nat) (v:α) (vs:List α) (h:o+(vs.length+1)≤l.length):over l o (v :: vs)=over (l.set o v) (o+1) vs:=by
 apply List.ext_getElem?
 intro i
 rw[over_get _ _ _ (by omega),over_get _ _ _ (by simp; omega),xH]
 simp only[List.length_cons]
 by_cases h1:o=i
 ·subst h1; simp; rw[if_neg (by omega),if_pos (by omega)]
 ·by_cases h2:o≤i∧i<o+(vs.length+1)
  ·rw[if_pos h2,if_pos (by omega)]
   obtain⟨d,rfl⟩:∃ d,i=o+1+d:=⟨i - o - 1,by omega⟩
   rw[show o+1+d - o=d+1 by omega,show o+1+d - (o+1)=d by omega]
   simp
  ·rw[if_neg h2,if_neg (by omega),if_neg h1]
theorem add_at (b o n:Nat):(⟨b,o,none⟩:Addr).add n=⟨b,o+n,none⟩:=by
 unfold Addr.add; split<;>simp_all
theorem run_storeCells {P:Program} (b o:Nat) (e:TypeId) (fr:Nat × Nat):∀ (vs:List Value) (i:Nat) (w:World) (c:List Value),w.heap[b]? = some (.cells ⟨c⟩ e fr)→(∀ j,j<c.length→¬ (fr.1≤j∧j<fr.2)) →
  o+i+vs.length≤c.length→(∀ v ∈ vs,one v=true) →
  (storeCells ⟨b,o,none⟩ vs i).run P w=.ok () (setB w b (.cells ⟨over c (o+i) vs⟩ e fr))
 | [],i,w,c,hw,_,_,_=>by
  have hb:b<w.heap.size:=(xv.1 hw).1
  have:w.heap.setIfInBounds b (.cells ⟨c⟩ e fr)=w.heap:=by
   apply Array.ext_getElem?
   intro j
   rw[Array.getElem?_setIfInBounds]
   split
   ·rename_i e; subst e; rw[hw]
   ·rfl
  simp only[storeCells,over_nil,setB,this]
  rfl
 | v :: vs,i,w,c,hw,hfr,hl,h1=>by
  have hb:b<w.heap.size:=(xv.1 hw).1
  have hlt:o+i<c.length:=by simp at hl; omega
  have hv:=h1 v (by simp)
  have hcell:w.cell? ⟨b,o+i,none⟩=some c[o+i]:=by simp[World.cell?,hw,hlt]
  have hfz:w.frozen? ⟨b,o+i,none⟩=false:=by
   simp only[World.frozen?,hw]
   have:=hfr (o+i) hlt
   simp only[Bool.and_eq_false_iff,decide_eq_false_iff_not]
   omega
  have hset:(w.setCell ⟨b,o+i,none⟩ v)=setB w b (.cells ⟨c.set (o+i) v⟩ e fr):=by
   simp only[World.setCell,setB]
   congr 1
   apply Array.ext_getElem?
   intro j
   rw[Array.getElem?_modify,Array.getElem?_setIfInBounds]
   split
   ·rename_i e'; subst e'; rw[hw]; simp
   ·rfl
  have hstep:(storeCells ⟨b,o,none⟩ (v :: vs) i).run P w=(storeCells ⟨b,o,none⟩ vs (i+1)).run P (setB w b (.cells ⟨c.set (o+i) v⟩ e fr)):=by
   rw[← hset]
   conv=>lhs; unfold storeCells
   rw[add_at]
   cases v<;>simp[one] at hv<;>simp[store,bind,Sem.bind,Sem.run,hcell,hfz]
  rw[hstep,run_storeCells b o e fr vs (i+1) (setB w b (.cells ⟨c.set (o+i) v⟩ e fr)) (c.set (o+i) v) (setB_eq _ _ hb) (by simpa using hfr) (by simp at hl ⊢; omega) (fun u hu=>h1 u (by simp[hu]))]
  rw[over_cons c (o+i) v vs (by simp at hl; omega)]
  simp only[setB,Array.setIfInBounds_setIfInBounds,xy]
end
section
set_option linter.unusedSectionVars false
variable [Mx]
open Go
def oneA:AV→Bool
 | .agg _ | .tup _=>false
 | _=>true
def cellsA:AV→List AV
 | .agg cs=>cs
 | v=>[v]
theorem one_of {Γ:Cx} {a:AV} {v:Value} (h:VRel Γ a v) (h1:oneA a=true):one v=true:=by
 cases a<;>simp[oneA] at h1<;>simp only[VRel] at h
 case ptr=>obtain⟨_,rfl⟩:=h; rfl
 case fptr=>obtain⟨_,_,rfl,_⟩:=h; rfl
 case sl=>obtain⟨_,_,_,_,_,rfl,_⟩:=h; rfl
 case fsl=>rcases h with ⟨rfl|⟨_,rfl⟩,_⟩|⟨_,_,_,rfl,_⟩<;>rfl
 case esl=>rcases h with rfl|⟨_,rfl⟩<;>rfl
 case enn=>obtain⟨_,_,rfl,_⟩:=h; rfl
 case map=>obtain⟨_,rfl⟩:=h; rfl
 case func=>obtain⟨_,rfl,_⟩:=h; rfl
 case iface=>obtain⟨_,rfl,_⟩:=h; rfl
 case yld=>obtain⟨_,rfl⟩:=h; rfl
 case unk=>obtain⟨_,_,rfl⟩:=h; rfl
 case bound=>obtain⟨_,rfl,_⟩:=h; rfl
 all_goals (subst h; rfl)
theorem cells_rel {Γ:Cx} {a:AV} {v:Value} (h:VRel Γ a v) (ht:∀ l,a≠.tup l):VRels Γ (cellsA a) v.cells.toList∧∀ u ∈ v.cells.toList,one u=true:=by
 by_cases h1:oneA a=true
 ·have h1':=one_of h h1
  rw[one_oneCell h1']
  have:cellsA a=[a]:=by cases a<;>simp_all [oneA,cellsA]
  rw[this]
  exact⟨by simp only[VRels]; exact⟨v,[],rfl,h,rfl⟩,by simpa using h1'⟩
 ·cases a with
  | agg cs =>
   simp only[VRel] at h
   obtain⟨vs,rfl,h2,h3⟩:=h
   exact⟨by simpa[cellsA,Value.cells] using h2,by simpa[Value.cells] using h3⟩
  | tup l=>exact absurd rfl (ht l)
  | _=>simp[oneA] at h1
def OpOk (P:Program) (Γ:Cx) (hp:HP) (m:Sem Value) (r:AV) (hp':HP):Prop:=
 ∃ v Δ,m.run P Γ.w=.ok v Δ.w∧VRel Δ r v∧HSim Δ hp'∧Ev Γ hp Δ hp'
def OpDone (P:Program) (Γ:Cx) (hp:HP) (m:Sem Unit) (hp':HP):Prop:=
 ∃ Δ,m.run P Γ.w=.ok () Δ.w∧HSim Δ hp'∧Ev Γ hp Δ hp'
theorem OpOk.same {P:Program} {Γ:Cx} {hp:HP} {m:Sem Value} {r:AV} {v:Value} (h:HSim Γ hp) (hm:m.run P Γ.w=.ok v Γ.w) (hr:VRel Γ r v):OpOk P Γ hp m r hp:=
 ⟨v,Γ,hm,hr,h,Ev.refl _ _⟩
def shapeP (P:Program) (t:TypeId):Option (Option Nat):=
 match P.info? t,P.underlying t with
 | some i,some (.struct _) | some i,some (.array _ _)=>some (some i.size)
 | some _,some _=>some none
 | _,_=>none
theorem shapeP_agg {P:Program} {t:TypeId} {n:Nat} (h:shapeP P t=some (some n)) (w:World):(isAgg t).run P w=.ok true w∧(sizeOf t).run P w=.ok n w:=by
 unfold shapeP at h
 cases hi:P.info? t with
 | none=>simp[hi] at h
 | some i =>
  cases hu:P.underlying t with
  | none=>simp[hi,hu] at h
  | some d=>cases d<;>simp[hi,hu] at h<;>subst h<;>exact⟨by simp[isAgg,run_underlying hu],by simp[sizeOf,typeInfo,hi]⟩
theorem shapeP_one {P:Program} {t:TypeId} (h:shapeP P t=some none) (w:World):(isAgg t).run P w=.ok false w:=by
 unfold shapeP at h
 cases hi:P.info? t with
 | none=>simp[hi] at h
 | some i =>
  cases hu:P.underlying t with
  | none=>simp[hi,hu] at h
  | some d=>cases d<;>simp[hi,hu] at h<;>simp[isAgg,run_underlying hu]
def sizeP (P:Program) (t:TypeId):Option Nat:=(P.info? t).map (·.size)
theorem sizeP_run {P:Program} {t:TypeId} {n:Nat} (h:sizeP P t=some n) (w:World):(sizeOf t).run P w=.ok n w:=by
 unfold sizeP at h
 cases hi:P.info? t with
 | none=>simp[hi] at h
 | some i=>simp[hi] at h; simp[sizeOf,typeInfo,hi,h]
def pickA (sh:Option Nat) (cs:List AV) (off:Nat):Option AV:=
 match sh with
 | none=>match cs[off]? with
  | some a=>if oneA a then some a else none
  | none=>none
 | some n=>if off+n≤cs.length then some (.agg ((cs.drop off).take n)) else none
def rowA (hp:HP):AV→Option (List AV × Nat)
 | .ptr id off=>match hp[id]? with
  | some (some (.row _ cs))=>some (cs,off)
  | _=>none
 | .fptr cs off=>some (cs,off)
 | _=>none
def loadA (hp:HP) (sh:Option Nat) (p:AV):Option AV:=
 match rowA hp p with
 | some (cs,off)=>pickA sh cs off
 | none=>none
theorem pickA_run {P:Program} {Γ:Cx} {t:TypeId} {sh:Option Nat} (hsh:shapeP P t=some sh) {cs:List AV} {b o off:Nat} (hc:CellsAt Γ cs b o) {r:AV} (h:pickA sh cs off=some r) :
  ∃ v,(loadVar t ⟨b,o+off,none⟩).run P Γ.w=.ok v Γ.w∧VRel Γ r v:=by
 cases sh with
 | none =>
  simp only[pickA] at h
  cases ha:cs[off]? with
  | none=>simp[ha] at h
  | some a =>
   rw[ha] at h
   simp only at h
   split at h
   ·cases h
    obtain⟨v,h1,h2,h3⟩:=hc.get off _ ha
    exact⟨v,by simp[loadVar,shapeP_one hsh,h1],h3⟩
   ·cases h
 | some n =>
  simp only[pickA] at h
  split at h
  ·rename_i hle
   cases h
   have hc':=(hc.drop off).take n
   obtain⟨vs,h1,h2,h3,h4⟩:=hc'.list
   have hn:vs.length=n:=by rw[h2]; simp; omega
   refine⟨.agg ⟨vs⟩,?_,by simp only[VRel]; exact⟨vs,rfl,h1,h3⟩⟩
   have hl:=run_loadCells_list (P:=P) (w:=Γ.w) ⟨b,o+off,none⟩ vs (fun j v hv=>by rw[add_at]; exact h4 j v hv)
   rw[hn] at hl
   simp only[loadVar,qN,(shapeP_agg hsh Γ.w).1,(shapeP_agg hsh Γ.w).2,qy,if_true,hl]
   rfl
  ·cases h
theorem rowA_rel {Γ:Cx} {hp:HP} (h:HSim Γ hp) {p:AV} {v:Value} (hv:VRel Γ p v) {cs:List AV} {off:Nat} (hr:rowA hp p=some (cs,off)):∃ b o,v=.pointer (some ⟨b,o+off,none⟩)∧CellsAt Γ cs b o:=by
 cases p<;>simp only[rowA] at hr<;>try contradiction
 case ptr id off' =>
  split at hr
  ·rename_i e cs' hx
   cases hr
   simp only[VRel] at hv
   obtain⟨hi,rfl⟩:=hv
   have:=(h.blk id _ hx).1
   simp only[BRel] at this
   exact⟨_,_,rfl,this.2⟩
  ·cases hr
 case fptr =>
  cases hr
  simp only[VRel] at hv
  obtain⟨b,o,rfl,_,hc⟩:=hv
  exact⟨b,o,rfl,hc⟩
theorem load_ok {P:Program} {Γ:Cx} {hp:HP} (h:HSim Γ hp) {t:TypeId} {sh:Option Nat} (hsh:shapeP P t=some sh) {p r:AV} {v:Value} (hv:VRel Γ p v) (hl:loadA hp sh p=some r) :
  OpOk P Γ hp (Instr.loadAt t v) r hp:=by
 simp only[loadA] at hl
 split at hl
 ·rename_i cs off hr
  obtain⟨b,o,rfl,hc⟩:=rowA_rel h hv hr
  obtain⟨u,h1,h2⟩:=pickA_run (P:=P) hsh hc hl
  exact OpOk.same h (by simp[Instr.loadAt,Instr.sureAddr,h1]) h2
 ·cases hl
theorem row_fits {Γ:Cx} {cs:List AV} {b o:Nat} (hcs:CellsAt Γ cs b o) {c:List Value} {e:TypeId} {fr:Nat × Nat} (hc:Γ.w.heap[b]? = some (.cells ⟨c⟩ e fr)):o+cs.length≤c.length∨cs=[]:=by
 rcases cs with _|⟨a,cs'⟩
 ·exact .inr rfl
 ·left
  obtain⟨v,k1,_⟩:=hcs.get ((a :: cs').length - 1) ((a :: cs').getLast (by simp)) (by rw[List.getLast_eq_getElem]; simp)
  simp only[World.cell?,hc] at k1
  have k2:c[o+((a :: cs').length - 1)]? = some v:=by simpa using k1
  have:=(qf.1 k2).1
  simp at this ⊢; omega
theorem write_row {P:Program} {Γ:Cx} {hp:HP} (h:HSim Γ hp) {id off:Nat} {e:TypeId} {cs as:List AV} {vs:List Value} (hx:hp[id]? = some (some (.row e cs))) (hvs:VRels Γ as vs) (h1:∀ u ∈ vs,one u=true)
  (hl:off≤cs.length) (hroom:off+as.length≤cs.length∨∃ e' m,Γ.w.shape? (Γ.β id).1=some (e',m)∧(Γ.β id).2+off+as.length≤m) :
  ∃ Δ,(storeCells ⟨(Γ.β id).1,(Γ.β id).2+off,none⟩ vs).run P Γ.w=.ok () Δ.w∧HSim Δ (hp.set id (some (.row e (over cs off as))))∧Ev Γ hp Δ (hp.set id (some (.row e (over cs off as))))∧Δ.β=Γ.β∧Δ.n=Γ.n∧Δ.Fz=Γ.Fz:=by
 obtain⟨hb,hf,hlt⟩:=h.blk id _ hx
 simp only[BRel] at hb
 obtain⟨⟨c,fr,hc,hfr0,hfr⟩,hcs⟩:=hb
 obtain⟨c⟩:=c
 have hlen:=hvs.length
 have hend:=row_fits hcs hc
 rcases Nat.eq_zero_or_pos as.length with h0|h0
 ·have ha:as=[]:=qq h0
  subst ha
  have hv0:vs=[]:=qq (by rw[← hlen]; rfl)
  subst hv0
  have hs:hp.set id (some (.row e cs))=hp:=by
   apply List.ext_getElem?
   intro j
   rw[xH]
   split
   ·rename_i ej; subst ej; rw[if_pos (HP.lt hx),hx]
   ·rfl
  refine⟨Γ,rfl,?_,?_,rfl,rfl,rfl⟩
  ·rw[over_nil,hs]; exact h
  ·rw[over_nil,hs]; exact Ev.refl _ _
 ·have hle:(Γ.β id).2+off+as.length≤c.length:=by
   rcases hroom with h' | ⟨e',m,h',h''⟩
   ·rcases hend with h'' | h''
    ·omega
    ·subst h''; simp only[List.length_nil] at h'; omega
   ·simp only[World.shape?,hc,qd,qj,List.size_toArray] at h'
    omega
  have hst:=run_storeCells (P:=P) (Γ.β id).1 ((Γ.β id).2+off) e fr vs 0 Γ.w c hc (by simpa using hfr) (by rw[← hlen]; omega) h1
  have hsh:∀ s,Γ.w.shape? (Γ.β id).1=some s→(setB Γ.w (Γ.β id).1 (.cells ⟨over c ((Γ.β id).2+off+0) vs⟩ e fr)).shape? (Γ.β id).1=some s:=by
   intro s hs
   simp only[World.shape?,hc] at hs
   simp only[World.shape?,setB_eq _ _ hlt]
   rw[← hs]
   simp only[List.size_toArray]
   rw[over_length _ _ _ (by rw[← hlen]; omega)]
  have hw:=h.write hx (.cells ⟨over c ((Γ.β id).2+off+0) vs⟩ e fr) (.row e (over cs off as)) hsh (by
   simp only[BRel]
   refine⟨⟨_,fr,setB_eq _ _ hlt,hfr0,?_⟩,?_⟩
   ·intro j hj
    simp only[List.size_toArray] at hj
    rw[over_length _ _ _ (by rw[← hlen]; omega)] at hj
    exact hfr j (by simpa using hj)
   ·have le:Le Γ (Γ.setB (Γ.β id).1 (.cells ⟨over c ((Γ.β id).2+off+0) vs⟩ e fr)):=Le.setB hf hsh
    refine CellsAt.of fun i a ha=>?_
    rw[over_get _ _ _ hl] at ha
    have hcell:∀ j,(setB Γ.w (Γ.β id).1 (.cells ⟨over c ((Γ.β id).2+off+0) vs⟩ e fr)).cell? ⟨(Γ.β id).1,j,none⟩=(over c ((Γ.β id).2+off+0) vs)[j]?:=by
     intro j; simp[World.cell?,setB_eq _ _ hlt]
    have hold:∀ j,Γ.w.cell? ⟨(Γ.β id).1,j,none⟩=c[j]?:=by intro j; simp[World.cell?,hc]
    simp only[Cx.setB,hcell]
    rw[over_get _ _ _ (by rw[← hlen] at *; omega)]
    split at ha
    ·rename_i hin
     rw[if_pos (by rw[← hlen]; omega)]
     have hg:=hvs.get (i - off)
     have hlt':i - off<vs.length:=by rw[← hlen]; omega
     rw[show (Γ.β id).2+i - ((Γ.β id).2+off+0)=i - off by omega]
     rw[qg hlt']
     refine⟨_,rfl,h1 _ (zd _),?_⟩
     simp only[List.getD,ha,qg hlt',Option.getD_some] at hg
     exact hg.le le
    ·rename_i hin
     rw[if_neg (by rw[← hlen]; omega)]
     obtain⟨v,k1,k2,k3⟩:=hcs.get i a ha
     rw[hold] at k1
     exact⟨v,k1,k2,k3.le le⟩)
  exact⟨_,hst,hw.1,hw.2,rfl,rfl,rfl⟩
def storeA (hp:HP) (n:Nat) (p v:AV):Option HP:=
 match p with
 | .ptr id off=>match hp[id]? with
  | some (some (.row e cs))=>match v with
   | .tup _=>none
   | v=>if (cellsA v).length=n∧off+n≤cs.length then some (hp.set id (some (.row e (over cs off (cellsA v))))) else none
  | _=>none
 | _=>none
theorem store_ok {P:Program} {Γ:Cx} {hp hp':HP} (h:HSim Γ hp) {t:TypeId} {n:Nat} (hsz:sizeP P t=some n) {p x:AV} {v u:Value} (hv:VRel Γ p v) (hu:VRel Γ x u) (hs:storeA hp n p x=some hp') :
  OpDone P Γ hp (Instr.storeAt t v u) hp':=by
 cases p<;>simp only[storeA] at hs<;>try contradiction
 case ptr id off =>
  split at hs
  ·rename_i e cs hx
   have ht:∀ l,x≠.tup l:=by rintro l rfl; simp at hs
   have hs':(if (cellsA x).length=n∧off+n≤cs.length then some (hp.set id (some (.row e (over cs off (cellsA x))))) else none)=some hp':=by
    cases x<;>first|exact hs|exact absurd rfl (ht _)
   split at hs'
   ·rename_i hn
    cases hs'
    obtain⟨k1,k2⟩:=cells_rel hu ht
    simp only[VRel] at hv
    obtain⟨hi,rfl⟩:=hv
    obtain⟨Δ,r1,r2,r3,_⟩:=write_row (P:=P) (off:=off) h hx k1 k2 (by omega) (.inl (by omega))
    have hl:=k1.length
    refine⟨Δ,?_,r2,r3⟩
    simp only[Instr.storeAt,Instr.sureAddr,qN,qO,qy,storeVar,sizeP_run hsz]
    rw[if_neg (by simp only[Array.length_toList] at hl; omega)]
    simpa using r1
   ·cases hs'
  ·cases hs
theorem newRow_ok {P:Program} {Γ:Cx} {hp:HP} (h:HSim Γ hp) (e:TypeId) {as:List AV} {vs:List Value} (hvs:VRels Γ as vs) (h1:∀ u ∈ vs,one u=true) (more:List Value) :
  ∃ Δ,(newRow e ⟨vs++more⟩).run P Γ.w=.ok ⟨Γ.w.heap.size,0,none⟩ Δ.w∧HSim Δ (hp++[some (.row e as)])∧Ev Γ hp Δ (hp++[some (.row e as)])∧Γ.n<Δ.n∧Δ.β hp.length=(Γ.w.heap.size,0) ∧
   Δ.w.shape? Γ.w.heap.size=some (e,(vs++more).length):=by
 have le:Le Γ ((Γ.alloc (.cells ⟨vs++more⟩ e (0,0))).know (Γ.w.heap.size,0)):=(Le.alloc h.fz _).trans (Le.know _ _)
 have hs:=h.new (.cells ⟨vs++more⟩ e (0,0)) (.row e as) (by
  simp only[BRel]
  refine⟨⟨_,(0,0),alloc_new _ _,qk _,fun o _=>by simp⟩,CellsAt.of fun i a ha=>?_⟩
  have hlt:i<vs.length:=by rw[← hvs.length]; exact (qf.1 ha).1
  have hg:=hvs.get i
  simp only[List.getD,ha,qg hlt,Option.getD_some] at hg
  refine⟨vs[i],?_,h1 _ (zd _),hg.le le⟩
  simp only[World.cell?,Cx.know,Cx.alloc,alloc_new]
  simp[xT,hlt])
 refine⟨_,?_,hs.1,hs.2,by simp[Cx.know,Cx.alloc],by simp[Cx.know,Cx.alloc,h.len],?_⟩
 ·simp only[newRow,qN,run_newObj,qy,qO]
  rfl
 ·simp only[World.shape?,Cx.know,Cx.alloc,alloc_new]
  simp
theorem newRowFz_ok {P:Program} {Γ:Cx} {hp:HP} (h:HSim Γ hp) (e:TypeId) {as:List AV} {vs:List Value} (hvs:VRels Γ as vs) (h1:∀ u ∈ vs,one u=true) :
  ∃ Δ,(newRow e ⟨vs⟩).run P Γ.w=.ok ⟨Γ.w.heap.size,0,none⟩ Δ.w∧HSim Δ hp∧Ev Γ hp Δ hp∧Δ.Fz Γ.w.heap.size∧CellsAt Δ as Γ.w.heap.size 0:=by
 have le:Le Γ ((Γ.alloc (.cells ⟨vs⟩ e (0,0))).shut Γ.w.heap.size):=(Le.alloc h.fz _).trans (Le.shut _ _)
 have hs:=h.newFz (.cells ⟨vs⟩ e (0,0))
 refine⟨_,?_,hs.1,hs.2,.inr rfl,CellsAt.of fun i a ha=>?_⟩
 ·simp only[newRow,qN,run_newObj,qy,qO]
  rfl
 ·have hlt:i<vs.length:=by rw[← hvs.length]; exact (qf.1 ha).1
  have hg:=hvs.get i
  simp only[List.getD,ha,qg hlt,Option.getD_some] at hg
  refine⟨vs[i],?_,h1 _ (zd _),hg.le le⟩
  simp only[World.cell?,Cx.shut,Cx.alloc,alloc_new]
  simp[hlt]
def boxA (hp:HP) (e:TypeId) (x:AV):Option (AV × HP):=
 match x with
 | .tup _=>none
 | x=>some (.ptr hp.length 0,hp++[some (.row e (cellsA x))])
theorem box_ok {P:Program} {Γ:Cx} {hp hp':HP} (h:HSim Γ hp) {e:TypeId} {x r:AV} {u:Value} (hu:VRel Γ x u) (hb:boxA hp e x=some (r,hp')):OpOk P Γ hp (Instr.box e u) r hp':=by
 have ht:∀ l,x≠.tup l:=by rintro l rfl; simp[boxA] at hb
 have hb':r=.ptr hp.length 0∧hp'=hp++[some (.row e (cellsA x))]:=by
  cases x<;>first|(simp[boxA] at hb; exact⟨hb.1.symm,hb.2.symm⟩)|exact absurd rfl (ht _)
 obtain⟨rfl,rfl⟩:=hb'
 obtain⟨k1,k2⟩:=cells_rel hu ht
 obtain⟨Δ,r1,r2,r3,r4,r5,_⟩:=newRow_ok (P:=P) h e k1 k2 []
 refine⟨.pointer (some ⟨Γ.w.heap.size,0,none⟩),Δ,?_,?_,r2,r3⟩
 ·have:(⟨u.cells.toList++[]⟩:Array Value)=u.cells:=by simp
  rw[this] at r1
  simp[Instr.box,newVar,r1]
 ·simp only[VRel]
  refine⟨?_,by rw[r5]⟩
  have:=r2.len
  simp at this; omega
def faddrA (off:Nat):AV→Option AV
 | .ptr id o=>some (.ptr id (o+off))
 | .fptr cs o=>some (.fptr cs (o+off))
 | _=>none
def fieldP (P:Program) (s:TypeId) (f:Nat):Option (Nat × Option Nat):=
 match P.underlying s with
 | some (.struct fs)=>match fs[f]? with
  | some fd=>match sizeP P fd.type,shapeP P fd.type with
   | some (_+1),some sh=>some (fd.offset,sh)
   | _,_=>none
  | none=>none
 | _=>none
theorem faddr_ok {P:Program} {Γ:Cx} {hp:HP} (h:HSim Γ hp) {s:TypeId} {f off:Nat} {sh:Option Nat} (hf:fieldP P s f=some (off,sh)) {p r:AV} {v:Value} (hv:VRel Γ p v) (hr:faddrA off p=some r) :
  OpOk P Γ hp (Instr.fieldAt s v f) r hp:=by
 unfold fieldP at hf
 split at hf
 ·rename_i fs hu
  split at hf
  ·rename_i fd hfd
   split at hf
   ·rename_i n sh' hsz hsh
    simp only[qd,qj] at hf
    obtain⟨rfl,rfl⟩:=hf
    have key:∀ a:Addr,v=.pointer (some a)→(Instr.fieldAt s v f).run P Γ.w=.ok (.pointer (some (a.add fd.offset))) Γ.w:=by
     rintro a rfl
     simp[Instr.fieldAt,run_underlying hu,hfd,Instr.sureAddr,fieldPlace,sizeP_run hsz]
    cases p<;>simp only[faddrA] at hr<;>try contradiction
    case ptr id o =>
     cases hr
     simp only[VRel] at hv
     obtain⟨hi,rfl⟩:=hv
     refine OpOk.same h (key _ rfl) ?_
     simp only[VRel,add_at]
     exact⟨hi,by rw[xy]⟩
    case fptr cs o =>
     cases hr
     simp only[VRel] at hv
     obtain⟨b,o',rfl,hb,hc⟩:=hv
     refine OpOk.same h (key _ rfl) ?_
     simp only[VRel,add_at]
     exact⟨b,o',by rw[xy],hb,hc⟩
   ·cases hf
  ·cases hf
 ·cases hf
def iaddrA (sz:Nat) (x i:AV):Option AV:=
 match x,i with
 | .sl id off len sz' _ _,.int _ i=>if sz'=sz∧0≤i∧i<len then some (.ptr id (off+i.toNat*sz)) else none
 | .fsl cs len,.int _ i=>if cs≠[]∧0≤i∧i<len then some (.fptr cs (i.toNat*sz)) else none
 | _,_=>none
def sliceP (P:Program) (t:TypeId):Option (TypeId × Nat):=
 match P.underlying t with
 | some (.slice e)=>(sizeP P e).map fun n=>(e,n)
 | _=>none
theorem sliceP_some {P:Program} {t e:TypeId} {n:Nat} (h:sliceP P t=some (e,n)):P.underlying t=some (.slice e)∧sizeP P e=some n:=by
 unfold sliceP at h
 split at h
 ·rename_i e' hu
  cases hs:sizeP P e' with
  | none=>simp[hs] at h
  | some m=>simp[hs] at h; obtain⟨rfl,rfl⟩:=h; exact⟨hu,hs⟩
 ·cases h
theorem iaddr_ok {P:Program} {Γ:Cx} {hp:HP} (h:HSim Γ hp) {t e:TypeId} {sz:Nat} (ht:sliceP P t=some (e,sz)) {x i r:AV} {v u:Value} (hv:VRel Γ x v) (hu:VRel Γ i u) (hr:iaddrA sz x i=some r) :
  OpOk P Γ hp (Instr.indexAt t v u) r hp:=by
 obtain⟨hut,hsz⟩:=sliceP_some ht
 have key:∀ (a:Addr) (len c:Nat) (k:IntKind) (n:Int),0≤n→n<len→(Instr.indexAt t (.slice (some a) len c) (.int k n)).run P Γ.w=.ok (.pointer (some (a.add (n.toNat*sz)))) Γ.w:=by
  intro a len c k n h0 h1
  simp[Instr.indexAt,asIntOf,run_underlying hut,h0,h1,sizeP_run hsz]
 cases x<;>cases i<;>simp only[iaddrA] at hr<;>try contradiction
 case sl.int id off len sz' lo ex k n =>
  split at hr
  ·rename_i hc
   obtain⟨rfl,h0,h1⟩:=hc
   cases hr
   simp only[VRel] at hv hu
   obtain⟨hi,o,c,e',m,rfl,ho,k1,k2,k3,k4,k5⟩:=hv
   subst hu
   refine OpOk.same h (key _ _ _ _ _ h0 h1) ?_
   simp only[VRel,add_at]
   refine⟨hi,?_⟩
   have : o = (Γ.β id).2 + off := by rcases ho with h' | h'
                                     ·omega
                                     ·exact h'
   rw[this,xy]
  ·cases hr
 case fsl.int cs len k n =>
  split at hr
  ·rename_i hc
   obtain⟨hne,h0,h1⟩:=hc
   cases hr
   simp only[VRel] at hv hu
   obtain⟨b,o,c,rfl,k1,k2,k3⟩:=hv.resolve_left fun h=>hne h.2.2
   subst hu
   refine OpOk.same h (key _ _ _ _ _ h0 h1) ?_
   simp only[VRel,add_at]
   exact⟨b,o,rfl,k2.resolve_left hne,k3⟩
  ·cases hr
end
end Go.Gi
