/- What the model knows by itself: counting bytes. -/
import Derived.Test.YtakdhioafodhcaaGreatDoorGiXA
import Derived.Lib.Bytealg
set_option linter.unusedVariables false
set_option linter.unusedSimpArgs false
namespace Go.Gi
set_option linter.unusedSectionVars false
variable [Mx]
open Go
def gv (g:Nat):List AV:=(globals.lookup g).getD []
theorem run_extern {P : Program} {g : FuncId} {fn : Func} (hfn : P.funcs[g]? = some fn) (hname : (fn.name == "runtime.NumGoroutine") = false) (hb : fn.body.isNone = true) (hn : (Extern.findNext fn).isNone = true) {f : Array Value → Sem Value} (hf : Extern.find fn = some f) (args : Array Value) (w : World) {v : Value} {w' : World}
  (h:(f args).run P w=.ok v w'):(callFunc g args).run P w=.ok (.value v) w':=by
 have hn' : ¬ fn.name = "runtime.NumGoroutine" := by simpa using hname
 have hb':fn.body=none:=by simpa using hb
 have hn2:Extern.findNext fn=none:=by simpa using hn
 have hp:(program).run P w=.ok P w:=rfl
 simp only[callFunc,Sem.run_bind,hp,Result.andThen_ok,hfn,hb',hn2,hf,Option.isNone_none,if_true]
 have hm:(Go.mark (.extern g)).run P w=.ok () w:=rfl
 simp[Sem.run_bind,hm,Result.andThen,h,hn']
theorem run_loadX {P:Program} {w:World}:∀ (l:List UInt8) (b o:Nat) (acc:ByteArray),(∀ j x,l[j]? = some x→w.cell? ⟨b,o+j,none⟩=some (.int .u8 x.toNat)) →
  (Extern.Bytes.loadBytes ⟨b,o,none⟩ l.length acc).run P w=.ok ⟨acc.data++l.toArray⟩ w
 | [],b,o,acc,_=>by simp[Extern.Bytes.loadBytes]
 | x :: l,b,o,acc,h=>by
  have h0:w.cell? ⟨b,o,none⟩=some (.int .u8 x.toNat):=by simpa using h 0 x rfl
  have ih:=run_loadX (P:=P) l b (o+1) (acc.push x) (fun j y hy=>by
   have:=h (j+1) y (by simpa using hy)
   rwa[Nat.add_assoc,Nat.add_comm 1 j])
  have hx:((x.toNat:Int).toNat).toUInt8=x:=by simp
  simp only[List.length_cons,Extern.Bytes.loadBytes,Sem.run_bind,run_load,h0,Result.andThen,hx,add_at]
  rw[ih]
  congr 1
  apply ByteArray.ext
  simp[ByteArray.push]
theorem bytesA_run {P:Program} {Γ:Cx} {hp:HP} (h:HSim Γ hp) {x:AV} {v:Value} (hv:VRel Γ x v) {as:List AV} {n:Nat} (hs:srcA hp 1 x=some (as,n)) {bs:List UInt8} (hu:unbyte as=some bs):(Extern.Bytes.bytesOf v).run P Γ.w=.ok ⟨bs.toArray⟩ Γ.w:=by
 have none_:as=[]→v=.slice none 0 0→(Extern.Bytes.bytesOf v).run P Γ.w=.ok ⟨bs.toArray⟩ Γ.w:=by
  rintro rfl rfl
  simp only[unbyte,Option.some.injEq] at hu
  subst hu
  rfl
 have one_:∀ (a:Addr) (c:Nat),as=[]→n=0→v=.slice (some a) 0 c→(Extern.Bytes.bytesOf v).run P Γ.w=.ok ⟨bs.toArray⟩ Γ.w:=by
  rintro a c rfl rfl rfl
  simp only[unbyte,Option.some.injEq] at hu
  subst hu
  rfl
 have nil_:as=[]→n=0→NilS v→(Extern.Bytes.bytesOf v).run P Γ.w=.ok ⟨bs.toArray⟩ Γ.w:=by
  rintro h1 h2 (h3|⟨a,h3⟩)
  ·exact none_ h1 h3
  ·exact one_ a 0 h1 h2 h3
 have some_:∀ (b o c:Nat),v=.slice (some ⟨b,o,none⟩) n c→as.length=n→CellsAt Γ as b o→(Extern.Bytes.bytesOf v).run P Γ.w=.ok ⟨bs.toArray⟩ Γ.w:=by
  rintro b o c rfl hl hc
  obtain⟨vs,q1,q2,q3,q4⟩:=hc.list
  have hvs:=unbyte_run hu q1
  have hlen:bs.length=n:=by
   have:=congrArg List.length hvs
   rw[List.length_map] at this
   omega
  have:=run_loadX (P:=P) (w:=Γ.w) bs b o .empty (fun j x hj=>by
   refine q4 j _ ?_
   rw[hvs,List.getElem?_map,hj]
   rfl)
  rw[hlen] at this
  simp only[Extern.Bytes.bytesOf]
  rw[this]
  simp
 cases x<;>simp only[srcA] at hs<;>try contradiction
 case nils =>
  cases hs
  simp only[VRel] at hv
  exact none_ rfl hv
 case esl =>
  cases hs
  simp only[VRel] at hv
  exact nil_ rfl rfl hv
 case enn =>
  cases hs
  simp only[VRel] at hv
  obtain⟨a,c,hv,_⟩:=hv
  exact one_ a c rfl rfl hv
 case fsl cs len =>
  split at hs
  ·rename_i hl
   cases hs
   simp only[VRel] at hv
   rcases hv with ⟨hv,rfl,rfl⟩|⟨b,o,c,hv,_,_,k3⟩
   ·exact nil_ rfl rfl hv
   ·exact some_ b o c hv (by omega) k3
  ·cases hs
 case sl id off len sz' lo ex =>
  split at hs
  ·rename_i e cs hx
   split at hs
   ·rename_i hl
    cases hs
    simp only[VRel] at hv
    obtain⟨hi,o,c,e',m,hv,ho,k1,k2,k3,k4,k5⟩:=hv
    refine some_ _ o c hv ?_ (sl_cells h hx ho (by omega) hl.2)
    rw[List.length_take,List.length_drop]
    omega
   ·cases hs
  ·cases hs
 case str s =>
  split at hs
  ·cases hs
   simp only[VRel] at hv
   subst hv
   have:bs=s:=by
    have key:∀ (s bs:List UInt8),unbyte (s.map byteA)=some bs→bs=s:=by
     intro s
     induction s with
     | nil=>intro bs h; simp only[List.map_nil,unbyte,Option.some.injEq] at h; exact h.symm
     | cons c s ih =>
      intro bs h
      have hc:(0:Int)≤(c.toNat:Int)∧(c.toNat:Int)<256:=⟨by omega,by have:=c.toNat_lt; omega⟩
      simp only[List.map_cons,byteA,unbyte,hc,and_self,if_true] at h
      cases hq:unbyte (s.map byteA) with
      | none=>simp[hq] at h
      | some t =>
       simp only[hq,Option.map_some,Option.some.injEq] at h
       rw[← h,ih t hq]
       simp
    exact key s bs hu
   subst this
   rfl
  ·cases hs
def countB (c:UInt8) (bs:List UInt8):Int:=bs.foldl (fun (n:Int) x=>if x == c then n+1 else n) 0
def countE (hp:HP) (xs:List AV):Option (AV × HP × Nat):=
 match xs with
 | [x,.int .u8 c]=>match srcA hp 1 x with
  | some (as,_)=>match unbyte as with
   | some bs=>some (.int .i64 (countB c.toNat.toUInt8 bs),hp,hp.length)
   | none=>none
  | none=>none
 | _=>none
theorem count_extA {P : Program} {g : FuncId} {fn : Func} (hfn : P.funcs[g]? = some fn) (hname : (fn.name == "runtime.NumGoroutine") = false) (hb : fn.body.isNone = true) (hn : (Extern.findNext fn).isNone = true) (hf : Extern.find fn = some Extern.BytealgCount.count) {xs : List AV} {hp : HP} {r : AV} {hp' : HP} {lo : Nat}
  (h:countE hp xs=some (r,hp',lo)):AExt P g xs hp fun a b=>a=r∧b=hp':=by
 unfold countE at h
 split at h
 ·rename_i x c
  split at h
  ·rename_i as n hs
   split at h
   ·rename_i bs hu
    cases h
    intro Γ vs hh hl hv
    obtain⟨v,u,rfl,h1,h2⟩:=hv.two'
    simp only[VRel] at h2
    subst h2
    refine⟨.int .i64 (countB c.toNat.toUInt8 bs),_,hp,Γ,?_,by simp only[VRel],hh,Ev.refl _ _,rfl,rfl⟩
    refine run_extern hfn hname hb hn hf _ _ ?_
    have he:Extern.BytealgCount.count ⟨[v,.int .u8 c]⟩=(do
      let b ← Extern.Bytes.bytesOf v
      let c ← Extern.Bytes.asByte (.int .u8 c)
      pure (goInt (b.foldl (fun n x=>if x == c then n+1 else n) (0:Nat)))):=rfl
    have hc:(Extern.Bytes.asByte (.int .u8 c)).run P Γ.w=.ok c.toNat.toUInt8 Γ.w:=rfl
    rw[he]
    simp only[Sem.run_bind,bytesA_run hh h1 hs hu,Result.andThen_ok,hc,Sem.run_pure,goInt,countB]
    rw[Lib.foldl_data]
    simp
   ·cases h
  ·cases h
 ·cases h
end Go.Gi
