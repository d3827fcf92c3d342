/- slices.Sort, as compiled, for elements that lie in one cell: patterns broken. -/
/- slices.Sort, as compiled, for elements that lie in one cell: the whole. -/
/- Bytes compared, sorted, made one of each, found: cmp.Less, slices.Sort, slices.BinarySearch at bytes. -/
import Derived.Test.YtakdhioafodhcaaGreatDoorGiSPC
import Derived.Sort.LotD5
import Derived.Test.YtakdhioafodhcaaGreatDoorGiSL
set_option linter.unusedVariables false
set_option linter.unusedSimpArgs false
set_option linter.unusedSectionVars false
namespace Go.Gi
open _root_.Bool renaming and_eq_true → qp, not_true → xB
open _root_.Go.Proofs.Tryz renaming prog → qi
open _root_.Int renaming toNat_natCast → xk
open _root_.Go.IntKind renaming wrap → qU, bits → za
open _root_.List renaming getElem?_eq_some_iff → qf, getElem?_set_self → xf, getElem?_set_ne → qv
open _root_.Nat renaming reduceEqDiff → qa, reduceLeDiff → qu, add_assoc → xy, le_refl → qk
open _root_.Option renaming map_some → qh
open _root_.Go.Gi.Tab renaming addR_self → xL
open _root_.Go.Gi.TabOk renaming none → qJ, addR → xY
section
set_option linter.unusedSectionVars false
variable [Mx]
open Go
theorem wrapU {n:Nat} (h:n<18446744073709551616):qU .u64 (n:Int)=(n:Int):=by
 have:qU .u64 (n:Int)=(n:Int) % 18446744073709551616:=by simp[qU,za,IntKind.signed]
 omega
theorem wrapUm (n:Nat):qU .u64 (n:Int)=((n % 18446744073709551616:Nat):Int):=by
 have:qU .u64 (n:Int)=(n:Int) % 18446744073709551616:=by simp[qU,za,IntKind.signed]
 omega
theorem bxor {x y:Nat} {K:EqK} (hx:x<18446744073709551616) (hy:y<18446744073709551616):binA .xor K (.int .u64 (x:Int)) (.int .u64 (y:Int))=some (.int .u64 ((x ^^^ y:Nat):Int)):=by
 have e:((BitVec.ofInt 64 (x:Int)) ^^^ (BitVec.ofInt 64 (y:Int))).toNat=x ^^^ y:=by
  rw[BitVec.ofInt_natCast,BitVec.ofInt_natCast,BitVec.toNat_xor,BitVec.toNat_ofNat,BitVec.toNat_ofNat,Nat.mod_eq_of_lt (by omega),Nat.mod_eq_of_lt (by omega)]
 have hl:x ^^^ y<18446744073709551616:=Nat.xor_lt_two_pow (n:=64) (by omega) (by omega)
 simp only[binA,intA,bitsA,if_true,qh]
 show some (AV.int IntKind.u64 (qU .u64 (((BitVec.ofInt 64 (x:Int)) ^^^ (BitVec.ofInt 64 (y:Int))).toNat:Int)))=_
 rw[e,wrapU hl]
theorem band {x y:Nat} {K:EqK} (hx:x<18446744073709551616) (hy:y<18446744073709551616):binA .and K (.int .u64 (x:Int)) (.int .u64 (y:Int))=some (.int .u64 ((x &&& y:Nat):Int)):=by
 have e:((BitVec.ofInt 64 (x:Int)) &&& (BitVec.ofInt 64 (y:Int))).toNat=x &&& y:=by
  rw[BitVec.ofInt_natCast,BitVec.ofInt_natCast,BitVec.toNat_and,BitVec.toNat_ofNat,BitVec.toNat_ofNat,Nat.mod_eq_of_lt (by omega),Nat.mod_eq_of_lt (by omega)]
 have hl:x &&& y<18446744073709551616:=Nat.lt_of_le_of_lt Nat.and_le_left hx
 simp only[binA,intA,bitsA,if_true,qh]
 show some (AV.int IntKind.u64 (qU .u64 (((BitVec.ofInt 64 (x:Int)) &&& (BitVec.ofInt 64 (y:Int))).toNat:Int)))=_
 rw[e,wrapU hl]
theorem bshl {x k:Nat} {q:IntKind} {K:EqK} (hk:k≤64):binA .shl K (.int .u64 (x:Int)) (.int q (k:Int))=some (.int .u64 ((x*2 ^ k % 18446744073709551616:Nat):Int)):=by
 simp only[binA]
 rw[if_neg (by omega),xk]
 have e:(x:Int)*2 ^ min k IntKind.u64.bits=((x*2 ^ k:Nat):Int):=by
  rw[Nat.min_eq_left (show k≤IntKind.u64.bits from hk)]
  push_cast
  rfl
 rw[e,wrapUm]
theorem bshr {x k:Nat} {q:IntKind} {K:EqK} (hk:k≤64):binA .shr K (.int .u64 (x:Int)) (.int q (k:Int))=some (.int .u64 ((x / 2 ^ k:Nat):Int)):=by
 simp only[binA]
 rw[if_neg (by omega),xk,Nat.min_eq_left (show k≤IntKind.u64.bits from hk),Int.fdiv_eq_ediv_of_nonneg _ (Int.pow_nonneg (by omega))]
 push_cast
 rfl
theorem len_shift {x m:Nat} (h:2 ^ m≤x):Sort.bitsLen x=Sort.bitsLen (x / 2 ^ m)+m:=by
 have hp:0<2 ^ m:=Nat.two_pow_pos m
 apply Nat.le_antisymm
 ·rw[Sort.bitsLen_le_iff,Nat.pow_add]
  exact (Nat.div_lt_iff_lt_mul hp).1 ((Sort.bitsLen_le_iff _ _).1 (qk _))
 ·have h1:=(Sort.bitsLen_le_iff x _).1 (qk _)
  have hm:m≤Sort.bitsLen x:=by
   rcases Nat.lt_or_ge (Sort.bitsLen x) m with g|g
   ·have:=Nat.pow_le_pow_right (n:=2) (by omega) (Nat.le_of_lt g)
    omega
   ·exact g
  have:Sort.bitsLen (x / 2 ^ m)≤Sort.bitsLen x - m:=by
   rw[Sort.bitsLen_le_iff,Nat.div_lt_iff_lt_mul hp,← Nat.pow_add,Nat.sub_add_cancel hm]
   exact h1
  omega
section
variable {P:Program} {T:Tab} {hint:Nat→Nat} {f:FuncId} {hp:HP}
theorem xs_calls (hm:P.follows .mixedOrders=true) (hT:TabOk P T) (hf:compF P hint f=some ⟨xsC,xsN,[.t 2]⟩) {rb X:Nat} {tx:TypeId} (hX:X<18446744073709551616) (hr:hp[rb]? = some (some (.row tx [.int .u64 (X:Int)]))) :
  ACalls P f [.ptr rb 0] hp fun r hp'=>r=.int .u64 (Sort.xorNextN X:Nat)∧hp'=hp.set rb (some (.row tx [.int .u64 (Sort.xorNextN X:Nat)])):=by
 refine calls_e hm hT hf (by rfl) (by simp[xsN]) ?_
 have hlt:rb<hp.length:=(qf.1 hr).1
 obtain⟨X1,hX1⟩:∃ X1:Nat,X1=X*2 ^ 13 % 18446744073709551616:=⟨_,rfl⟩
 obtain⟨A,hA⟩:∃ A:Nat,A=X ^^^ X1:=⟨_,rfl⟩
 obtain⟨A1,hA1⟩:∃ A1:Nat,A1=A / 2 ^ 7:=⟨_,rfl⟩
 obtain⟨B,hB⟩:∃ B:Nat,B=A ^^^ A1:=⟨_,rfl⟩
 obtain⟨B1,hB1⟩:∃ B1:Nat,B1=B*2 ^ 17 % 18446744073709551616:=⟨_,rfl⟩
 obtain⟨C,hC⟩:∃ C:Nat,C=B ^^^ B1:=⟨_,rfl⟩
 have lX1:X1<18446744073709551616:=by rw[hX1]; exact Nat.mod_lt _ (by decide)
 have lA:A<18446744073709551616:=by rw[hA]; exact Nat.xor_lt_two_pow (n:=64) hX lX1
 have lA1:A1<18446744073709551616:=by rw[hA1]; exact Nat.lt_of_le_of_lt (Nat.div_le_self _ _) lA
 have lB:B<18446744073709551616:=by rw[hB]; exact Nat.xor_lt_two_pow (n:=64) lA lA1
 have lB1:B1<18446744073709551616:=by rw[hB1]; exact Nat.mod_lt _ (by decide)
 have s1:binA .shl .prim (.int .u64 (X:Int)) (.int .u64 13)=some (.int .u64 (X1:Int)):=by
  rw[hX1]
  exact bshl (x:=X) (k:=13) (q:=.u64) (K:=.prim) (by omega)
 have s2:binA .shr .prim (.int .u64 (A:Int)) (.int .u64 7)=some (.int .u64 (A1:Int)):=by
  rw[hA1]
  exact bshr (x:=A) (k:=7) (q:=.u64) (K:=.prim) (by omega)
 have s3:binA .shl .prim (.int .u64 (B:Int)) (.int .u64 17)=some (.int .u64 (B1:Int)):=by
  rw[hB1]
  exact bshl (x:=B) (k:=17) (q:=.u64) (K:=.prim) (by omega)
 have x1:=bxor (x:=X) (y:=X1) (K:=.prim) hX lX1
 have x2:=bxor (x:=A) (y:=A1) (K:=.prim) lA lA1
 have x3:=bxor (x:=B) (y:=B1) (K:=.prim) lB lB1
 rw[← hA] at x1
 rw[← hB] at x2
 rw[← hC] at x3
 have e:Sort.xorNextN X=C:=by
  rw[show (2:Nat) ^ 13=8192 by decide] at hX1
  rw[show (2:Nat) ^ 7=128 by decide] at hA1
  rw[show (2:Nat) ^ 17=131072 by decide] at hB1
  unfold Sort.xorNextN
  rw[hC,hB1,hB,hA1,hA,hX1]
 rw[e]
 clear hX1 hA1 hB1
 clear hA hB hC e
 refine vcE.s1 (k:=vcE.step (by simp (disch:=first|assumption|omega) only[go_sem,↓reduceIte,qa,reduceCtorEq,qu,nilchkA,hr,↓s1,↓x1]; rfl) ?_)
 have h1:(hp.set rb (some (.row tx [.int .u64 (A:Int)])))[rb]? = some (some (.row tx [.int .u64 (A:Int)])):=xf hlt
 refine vcE.step (by simp (disch:=first|assumption|omega) only[go_sem,↓reduceIte,qa,reduceCtorEq,qu,nilchkA,h1,↓s2,↓x2]; rfl) ?_
 have h2:((hp.set rb (some (.row tx [.int .u64 (A:Int)]))).set rb (some (.row tx [.int .u64 (B:Int)])))[rb]? = some (some (.row tx [.int .u64 (B:Int)])):=xf (by simpa using hlt)
 refine vcE.step (by simp (disch:=first|assumption|omega) only[go_sem,↓reduceIte,qa,reduceCtorEq,qu,nilchkA,h2,↓s3,↓x3]; rfl) ?_
 have h3:(((hp.set rb (some (.row tx [.int .u64 (A:Int)]))).set rb (some (.row tx [.int .u64 (B:Int)]))).set rb (some (.row tx [.int .u64 (C:Int)])))[rb]? = some (some (.row tx [.int .u64 (C:Int)])):=xf (by simpa using hlt)
 refine vcE.ex (by simp (disch:=first|assumption|omega) only[go_sem,↓reduceIte,reduceCtorEq,nilchkA,h3]; rfl) ?_
 refine⟨_,rfl,rfl,?_⟩
 simp only[List.set_set]
theorem lenTab {x:Nat} (hx:x<256):indexSA (.str lenT) (.int .u8 (x:Int))=some (byteA (UInt8.ofNat (Sort.bitsLen x))):=by
 have h:∀ y:Fin 256,lenT[y.val]? = some (UInt8.ofNat (Sort.bitsLen y.val)):=by decide +kernel
 have:=h ⟨x,hx⟩
 simp only[indexSA]
 rw[if_pos (by omega),xk]
 simp only at this
 rw[this]
theorem l64_calls (hm:P.follows .mixedOrders=true) (hT:TabOk P T) (hf:compF P hint f=some ⟨l64C,l64N,[.t 2]⟩) {x:Nat} (hx:x<18446744073709551616):ACalls P f [.int .u64 (x:Int)] hp fun r hp'=>r=.int .i64 (Sort.bitsLen x:Nat)∧hp'=hp:=by
 refine calls_e hm hT hf (by rfl) (by simp[l64N]) ?_
 refine vcE.s0 ?_
 refine vcE.then (fun e' tm' hp'=>e'=.normal∧hp'=hp∧∃ y m:Nat,y<4294967296∧m≤32∧Sort.bitsLen x=Sort.bitsLen y+m∧tm' 0=.int .u64 (y:Int)∧tm' 2=.int .i64 (m:Int)) ?_ ?_
 ·by_cases h:4294967296≤x
  ·have h':(4294967296:Int)≤(x:Int):=by omega
   have s1:binA .shr .prim (.int .u64 (x:Int)) (.int .u64 32)=some (.int .u64 ((x / 4294967296:Nat):Int)):=bshr (x:=x) (k:=32) (q:=.u64) (K:=.prim) (by omega)
   have hl:=len_shift (x:=x) (m:=32) h
   refine vcE.ex (by simp (disch:=first|assumption|omega) only[go_sem,↓reduceIte,reduceCtorEq,h',decide_true,↓s1]; rfl) ?_
   exact⟨rfl,rfl,x / 4294967296,32,by omega,by omega,hl,rfl,rfl⟩
  ·have h':¬ (4294967296:Int)≤(x:Int):=by omega
   refine vcE.ex (by simp (disch:=first|assumption|omega) only[go_sem,↓reduceIte,reduceCtorEq,h',decide_false]; rfl) ?_
   exact⟨rfl,rfl,x,0,by omega,by omega,rfl,rfl,rfl⟩
 rintro e' tm hp' ⟨rfl,rfl,y,m,hy,hm1,he,t0,t2⟩
 refine vcE.then (fun e' tm' hp''=>e'=.normal∧hp''=hp'∧∃ y m:Nat,y<65536∧m≤48∧Sort.bitsLen x=Sort.bitsLen y+m∧tm' 0=.int .u64 (y:Int)∧tm' 2=.int .i64 (m:Int)) ?_ ?_
 ·by_cases h:65536≤y
  ·have h':(65536:Int)≤(y:Int):=by omega
   have s1:binA .shr .prim (.int .u64 (y:Int)) (.int .u64 16)=some (.int .u64 ((y / 65536:Nat):Int)):=bshr (x:=y) (k:=16) (q:=.u64) (K:=.prim) (by omega)
   have hl:=len_shift (x:=y) (m:=16) h
   have w1:=natW (x:=(m:Int)+16) (m+16) (by omega) (by omega)
   refine vcE.ex (by simp (disch:=first|assumption|omega) only[go_sem,↓reduceIte,t0,h',reduceCtorEq,↓s1,qa,t2,w1]; rfl) ?_
   refine⟨rfl,rfl,y / 65536,m+16,by omega,by omega,by rw[he,hl]; exact (xy _ _ _).trans (congrArg _ (Nat.add_comm _ _)),?_,?_⟩
   all_goals simp only[upd_app,qa,↓reduceIte]
  ·have h':¬ (65536:Int)≤(y:Int):=by omega
   refine vcE.ex (by simp (disch:=first|assumption|omega) only[go_sem,↓reduceIte,t0,h',decide_false]; rfl) ?_
   refine⟨rfl,rfl,y,m,by omega,by omega,he,?_,?_⟩
   all_goals simp only[upd_app,qa,↓reduceIte,t0,t2]
 clear t0 t2 he hm1 hy y m
 rintro e' tm hp'' ⟨rfl,rfl,y,m,hy,hm1,he,t0,t2⟩
 refine vcE.then (fun e' tm' hp'=>e'=.normal∧hp'=hp''∧∃ y m:Nat,y<256∧m≤56∧Sort.bitsLen x=Sort.bitsLen y+m∧tm' 0=.int .u64 (y:Int)∧tm' 2=.int .i64 (m:Int)) ?_ ?_
 ·by_cases h:256≤y
  ·have h':(256:Int)≤(y:Int):=by omega
   have s1:binA .shr .prim (.int .u64 (y:Int)) (.int .u64 8)=some (.int .u64 ((y / 256:Nat):Int)):=bshr (x:=y) (k:=8) (q:=.u64) (K:=.prim) (by omega)
   have hl:=len_shift (x:=y) (m:=8) h
   have w1:=natW (x:=(m:Int)+8) (m+8) (by omega) (by omega)
   refine vcE.ex (by simp (disch:=first|assumption|omega) only[go_sem,↓reduceIte,t0,h',reduceCtorEq,↓s1,qa,t2,w1]; rfl) ?_
   refine⟨rfl,rfl,y / 256,m+8,by omega,by omega,by rw[he,hl]; exact (xy _ _ _).trans (congrArg _ (Nat.add_comm _ _)),?_,?_⟩
   all_goals simp only[upd_app,qa,↓reduceIte]
  ·have h':¬ (256:Int)≤(y:Int):=by omega
   refine vcE.ex (by simp (disch:=first|assumption|omega) only[go_sem,↓reduceIte,t0,h',decide_false]; rfl) ?_
   refine⟨rfl,rfl,y,m,by omega,by omega,he,?_,?_⟩
   all_goals simp only[upd_app,qa,↓reduceIte,t0,t2]
 clear t0 t2 he hm1 hy y m
 rintro e' tm hp' ⟨rfl,rfl,y,m,hy,hm1,he,t0,t2⟩
 have ht:=lenTab hy
 have w1:qU .u8 (y:Int)=(y:Int):=wrap_u8 (by omega) (by omega)
 have hb8:Sort.bitsLen y≤8:=(Sort.bitsLen_le_iff y 8).2 (by omega)
 have hby:byteA (UInt8.ofNat (Sort.bitsLen y))=.int .u8 ((Sort.bitsLen y:Nat):Int):=by
  have:(UInt8.ofNat (Sort.bitsLen y)).toNat=Sort.bitsLen y:=by
   rw[UInt8.toNat_ofNat']
   omega
  simp only[byteA,this]
 rw[hby] at ht
 have w2:=natW (x:=((Sort.bitsLen y:Nat):Int)) (Sort.bitsLen y) rfl (by omega)
 have w3:=natW (x:=(m:Int)+((Sort.bitsLen y:Nat):Int)) (Sort.bitsLen x) (by omega) (by omega)
 refine vcE.ex (by simp (disch:=first|assumption|omega) only[go_sem,↓reduceIte,qa,reduceCtorEq,t0,t2,w1,w2,w3,↓ht]; rfl) ?_
 exact⟨_,rfl,rfl,rfl⟩
theorem bl_calls (hm:P.follows .mixedOrders=true) (hT:TabOk P T) {fl64 fl32:FuncId} {hint':Nat→Nat} (h64:compF P hint' fl64=some ⟨l64C,l64N,[.t 2]⟩) (hf:compF P hint f=some ⟨blC fl64 fl32,blN,[.t 2]⟩) {x:Nat} (hx:x<18446744073709551616):ACalls P f [.int .u64 (x:Int)] hp fun r hp'=>r=.int .i64 (Sort.bitsLen x:Nat)∧hp'=hp:=by
 refine calls_e hm hT hf (by rfl) (by simp[blN]) ?_
 refine vcE.s1 (k:=vcE.s0 ?_)
 rw[show blR2 fl64 fl32=(blR2 fl64 fl32).take 1++((blR2 fl64 fl32).drop 1).take 1++(blR2 fl64 fl32).drop 2 from rfl]
 refine vcE.seq (vcE.app (vcE.app (vcE.e1 (k:=⟨rfl,vcE.call (f:=fl64) (caps:=[]) (ys:=[.int .u64 (x:Int)]) rfl ?_ (l64_calls hm hT h64 hx) ?_⟩))))
 ·simp only[evsE,evE,upd_app,↓reduceIte]
 rintro r hp' ⟨rfl,rfl⟩
 refine⟨rfl,vcE.e0 ?_⟩
 refine vcE.e0 ?_
 exact⟨_,rfl,rfl,rfl⟩
theorem np_calls (hm:P.follows .mixedOrders=true) (hT:TabOk P T) {fl64 fl32 fbl:FuncId} {h1 h2:Nat→Nat} (h64:compF P h1 fl64=some ⟨l64C,l64N,[.t 2]⟩) (hbl:compF P h2 fbl=some ⟨blC fl64 fl32,blN,[.t 2]⟩) (hf:compF P hint f=some ⟨npC fbl,npN,[.t 2]⟩) {x:Nat} (hx:x≤1000000000000000000):ACalls P f [.int .i64 (x:Int)] hp fun r hp'=>r=.int .u64 (1 <<< Sort.bitsLen x:Nat)∧hp'=hp:=by
 refine calls_e hm hT hf (by rfl) (by simp[npN]) ?_
 have w1:=wrapU (n:=x) (by omega)
 have hb:Sort.bitsLen x≤62:=(Sort.bitsLen_le_iff x 62).2 (by omega)
 have hsh:(1:Nat)*2 ^ Sort.bitsLen x % 18446744073709551616=1 <<< Sort.bitsLen x:=by
  rw[Nat.one_shiftLeft,Nat.one_mul]
  apply Nat.mod_eq_of_lt
  have:=Nat.pow_le_pow_right (n:=2) (by omega) hb
  omega
 have s1:binA .shl .prim (.int .u64 1) (.int .i64 ((Sort.bitsLen x:Nat):Int))=some (.int .u64 ((1 <<< Sort.bitsLen x:Nat):Int)):=by
  have:=bshl (x:=1) (k:=Sort.bitsLen x) (q:=.i64) (K:=.prim) (by omega)
  rw[hsh] at this
  exact this
 refine vcE.s0 ?_
 rw[show npR1 fbl=(npR1 fbl).take 2++((npR1 fbl).drop 2).take 1++(npR1 fbl).drop 3 from rfl]
 refine vcE.seq (vcE.app (vcE.app (vcE.ex (by simp (disch:=first|assumption|omega) only[go_sem,↓reduceIte,reduceCtorEq,w1]; rfl) ⟨rfl,vcE.call (f:=fbl) (caps:=[]) (ys:=[.int .u64 (x:Int)]) rfl ?_ (bl_calls hm hT h64 hbl (by omega)) ?_⟩)))
 ·simp only[evsE,evE,upd_app,↓reduceIte]
 rintro r hp' ⟨rfl,rfl⟩
 refine⟨rfl,vcE.ex (by simp (disch:=first|assumption|omega) only[go_sem,↓reduceIte,putE,↓s1]; rfl) ?_⟩
 refine vcE.e0 ?_
 exact⟨_,rfl,rfl,rfl⟩
end
section
variable {α:Type} [Inhabited α] {L:El1 α} {lt:α→α→Bool} {P:Program} {T:Tab} {less:FuncId} {hint:Nat→Nat} {f:FuncId} {e:TypeId} {id:Nat} {hp0 hp:HP} {d:Array α} {v:AV}
theorem Srt.swapk (s:Srt L e id hp0 hp d) {i j:Nat} (hi:i<d.size) (hj:j<d.size):∃ hp1 hp2,storeA hp 1 (.ptr id i) (L.v d[j]!)=some hp1∧storeA hp1 1 (.ptr id j) (L.v d[i]!)=some hp2∧Srt L e id hp0 hp2 (Sort.swp d i j)∧∀ k,k≠id→hp2[k]? = hp[k]?:=by
 obtain⟨h1,s1⟩:=s.set hi d[j]!
 obtain⟨h2,s2⟩:=s1.set (i:=j) (by simpa using hj) d[i]!
 refine⟨_,_,h1,h2,s2,fun k hk=>?_⟩
 rw[qv (Ne.symm hk),qv (Ne.symm hk)]
def bpLeft (a n M i0:Nat):Nat→Nat→UInt64 × Array α→Array α
 | 0,_,st=>st.2
 | k+1,t,st=>bpLeft a n M i0 k (t+1) (Sort.breakStep a n M st (i0+t))
theorem bp_eq (a b:Nat) (h8:b - a≥8):Sort.breakPatterns d a b=bpLeft a (b - a) (1 <<< Sort.bitsLen (b - a)) (a+(b - a) / 4*2 - 1) 3 0 (UInt64.ofNat (b - a),d):=by
 unfold Sort.breakPatterns
 simp only[]
 rw[if_pos h8]
 rfl
theorem bp_calls (hm:P.follows .mixedOrders=true) (hT:TabOk P T) {fl64 fl32 fbl fnp fxs:FuncId} {h1 h2 h3 h4:Nat→Nat} (h64:compF P h1 fl64=some ⟨l64C,l64N,[.t 2]⟩) (hbl:compF P h2 fbl=some ⟨blC fl64 fl32,blN,[.t 2]⟩) (hnp:compF P h3 fnp=some ⟨npC fbl,npN,[.t 2]⟩) (hxs:compF P h4 fxs=some ⟨xsC,xsN,[.t 2]⟩) {tx:TypeId} (hf:compF P hint f=some ⟨bpC fnp fxs tx,bpN,[]⟩) (s:Srt L e id hp0 hp d) (hv:SlA id d v) {a b:Nat} (hab:a<b) (hb:b≤d.size) :
  ACalls P f [v,.int .i64 a,.int .i64 b] hp fun r hp'=>r=.tup []∧Srt L e id hp0 hp' (Sort.breakPatterns d a b)∧(Sort.breakPatterns d a b).size=d.size:=by
 refine calls_e hm hT hf (by rfl) (by simp[bpN]) ?_
 have hsz:=hv.2
 have hid:id<hp.length:=(qf.1 (s.get (i:=a) (by omega))).1
 have w1:=natW (x:=(b:Int) - (a:Int)) (b - a) (by omega) (by omega)
 by_cases h8:b - a≥8
 rotate_left
 ·have h8':¬ (8:Int)≤((b - a:Nat):Int):=by omega
  have e8:Sort.breakPatterns d a b=d:=by
   unfold Sort.breakPatterns
   simp only[]
   rw[if_neg h8]
  rw[e8]
  refine vcE.ex (by simp (disch:=first|assumption|omega) only[go_sem,↓reduceIte,qa,w1,h8',decide_false]; rfl) ?_
  exact⟨_,rfl,rfl,s,rfl⟩
 rw[bp_eq a b h8]
 generalize hn:b - a=n at *
 have h8':(8:Int)≤(n:Int):=by omega
 obtain⟨M,hM⟩:∃ M,M=1 <<< Sort.bitsLen n:=⟨_,rfl⟩
 have hM1:1≤M:=by rw[hM,Nat.one_shiftLeft]; exact Nat.two_pow_pos _
 have hM2:M≤2*n:=by rw[hM,Nat.one_shiftLeft]; exact Sort.two_pow_bitsLen_le (by omega)
 rw[← hM]
 have wu:=wrapU (n:=n) (by omega)
 have hst:storeA (hp++[some (.row tx [.int .u64 0])]) 1 (.ptr hp.length 0) (.int .u64 (n:Int))=some (hp++[some (.row tx [.int .u64 (n:Int)])]):=by
  simp[storeA,cellsA]
  rfl
 refine vcE.step (by simp (disch:=first|assumption|omega) only[go_sem,↓reduceIte,qa,w1]; rfl) (vcE.step (by simp (disch:=first|assumption|omega) only[go_sem,↓reduceIte,h8',decide_true]; rfl) (vcE.condTrue (by simp only[evE,upd_app,↓reduceIte]) (vcE.step (by simp (disch:=first|assumption|omega) only[go_sem,↓reduceIte,qa,wu,allocA,↓hst]; rfl) ?_)))
 have s1:=s.app [some (.row tx [.int .u64 (n:Int)])]
 have hr1:(hp++[some (.row tx [.int .u64 (n:Int)])])[hp.length]? = some (some (.row tx [.int .u64 (n:Int)])):=by simp
 have hle:=s.len
 generalize hp++[some (.row tx [.int .u64 (n:Int)])]=hp1 at *
 generalize hrb:hp.length=rb at *
 refine vcE.then (fun e' tm' hp'=>e'=.normal∧hp'=hp1∧tm' 0=v∧tm' 1=.int .i64 a∧tm' 6=.int .i64 n∧tm' 7=.ptr rb 0∧tm' 8=.int .u64 (M:Int)) ?_ ?_
 ·rw[show bpR3 fnp fxs tx=(bpR3 fnp fxs tx).take 1++((bpR3 fnp fxs tx).drop 1).take 1++(bpR3 fnp fxs tx).drop 2 from rfl]
  refine vcE.app (vcE.app (vcE.e1 (k:=⟨rfl,vcE.call (f:=fnp) (caps:=[]) (ys:=[.int .i64 (n:Int)]) rfl ?_ (np_calls hm hT h64 hbl hnp (x:=n) (by omega)) ?_⟩)))
  ·simp only[evsE,evE,upd_app,↓reduceIte]
  rintro r hp' ⟨rfl,rfl⟩
  refine⟨rfl,vcE.e0 ?_⟩
  refine⟨rfl,rfl,?_,?_,?_,?_,?_⟩
  all_goals first|(simp only[upd_app,qa,↓reduceIte,hM]; done)|(simp only[upd_app,qa,↓reduceIte]; rfl)
 rintro e' tm hp' ⟨rfl,rfl,t0,t1,t6,t7,t8⟩
 have q4:((n:Nat):Int).tdiv 4=((n / 4:Nat):Int):=natQ n 4
 have w2:=natW (x:=((n / 4:Nat):Int)) (n / 4) rfl (by omega)
 have w3:=natW (x:=((n / 4:Nat):Int)*2) (n / 4*2) (by omega) (by omega)
 have w4:=natW (x:=(a:Int)+((n / 4*2:Nat):Int)) (a+n / 4*2) (by omega) (by omega)
 have w5:=natW (x:=((a+n / 4*2:Nat):Int) - 1) (a+n / 4*2 - 1) (by omega) (by omega)
 have w6:=natW (x:=((a+n / 4*2:Nat):Int)+1) (a+n / 4*2+1) (by omega) (by omega)
 generalize hq:a+n / 4*2=q at *
 have hq1:1≤q:=by omega
 have hq2:q+1<b:=by omega
 have wM:=wrapU (n:=M - 1) (by omega)
 have wM':qU .u64 ((M:Int) - 1)=((M - 1:Nat):Int):=by
  rw[← wM]
  congr 1
  omega
 refine vcE.step (by simp (disch:=first|assumption|omega) only[go_sem,↓reduceIte,qa,t1,t6,q4,w2,w3,w4,w5]; rfl) (vcE.block (vcE.loop (by intro l tm hp h; simp[RetE] at h) (fun k tm' hp' => ∃ (t:Nat) (r:UInt64) (dk:Array α),k=3 - t∧t≤3∧dk.size=d.size∧Srt L e id hp0 hp' dk∧hp'[rb]? = some (some (.row tx [.int .u64 (r.toNat:Int)]))∧bpLeft a n M (q - 1) (3 - t) t (r,dk)=bpLeft a n M (q - 1) 3 0 (UInt64.ofNat n,d)∧tm' 0=v∧tm' 1=.int .i64 a∧tm' 6=.int .i64 n∧tm' 7=.ptr rb 0∧tm' 8=.int .u64 (M:Int)∧tm' 9=.int .i64 ((q - 1+t:Nat):Int)) 3 ⟨0,UInt64.ofNat n,d,rfl,by omega,rfl,s1,?_,rfl,?_,?_,?_,?_,?_,?_⟩ ?_))
 ·rw[hr1,show (UInt64.ofNat n).toNat=n from by simp; omega]
 ·simp only[upd_app,qa,↓reduceIte,t0]
 ·simp only[upd_app,qa,↓reduceIte,t1]
 ·simp only[upd_app,qa,↓reduceIte,t6]
 ·simp only[upd_app,qa,↓reduceIte,t7]
 ·simp only[upd_app,qa,↓reduceIte,t8]
 ·simp only[upd_app,↓reduceIte,Nat.add_zero]
 clear t0 t1 t6 t7 t8 s s1 hst
 rintro k tm hp2 ⟨t,r,dk,rfl,ht,hdk,s2,hr2,hs,t0,t1,t6,t7,t8,t9⟩
 by_cases h3:t=3
 ·subst h3
  have hle':¬ ((q - 1+3:Nat):Int)≤((q+1:Nat):Int):=by omega
  refine vcE.ex (by simp (disch:=first|assumption|omega) only[go_sem,↓reduceIte,t9,qa,t1,t6,q4,w2,w3,w4,w6,hle',decide_false]; rfl) ?_
  rw[← hs]
  exact⟨_,rfl,rfl,s2,hdk⟩
 have hle':((q - 1+t:Nat):Int)≤((q+1:Nat):Int):=by omega
 refine vcE.step (by simp (disch:=first|assumption|omega) only[go_sem,↓reduceIte,t9,qa,t1,t6,q4,w2,w3,w4,w6,hle']; rfl) ?_
 have hR:Sort.xorNextN r.toNat=(Sort.xorNext r).toNat:=(Sort.xorNext_toNat r).symm
 obtain⟨O,hO⟩:∃ O,O=(Sort.xorNext r).toNat &&& (M - 1):=⟨_,rfl⟩
 have lO:O≤M - 1:=by rw[hO]; exact Nat.and_le_right
 have lR:(Sort.xorNext r).toNat<18446744073709551616:=(Sort.xorNext r).toNat_lt
 have a1:=band (x:=(Sort.xorNext r).toNat) (y:=M - 1) (K:=.prim) lR (by omega)
 rw[← hO] at a1
 have wO:=natW (x:=(O:Int)) O rfl (by omega)
 have hrne:rb≠id:=by omega
 have hrlt:rb<hp2.length:=(qf.1 hr2).1
 have step:bpLeft a n M (q - 1) (3 - (t+1)) (t+1) (Sort.xorNext r,Sort.swp dk (q - 1+t) (a+if O≥n then O - n else O))=bpLeft a n M (q - 1) 3 0 (UInt64.ofNat n,d):=by
  rw[← hs,show 3 - t=(3 - (t+1))+1 by omega,bpLeft]
  unfold Sort.breakStep
  simp only[← hO]
 refine vcE.then (fun e' tm' hp'=>e'=.normal∧Srt L e id hp0 hp' (Sort.swp dk (q - 1+t) (a+if O≥n then O - n else O))∧hp'[rb]? = some (some (.row tx [.int .u64 ((Sort.xorNext r).toNat:Int)]))∧tm' 0=v∧tm' 1=.int .i64 a∧tm' 6=.int .i64 n∧tm' 7=.ptr rb 0∧tm' 8=.int .u64 (M:Int)∧tm' 9=.int .i64 ((q - 1+t:Nat):Int)) ?_ ?_
 rotate_left
 ·rintro e' tm hp' ⟨rfl,s3,hr3,u0,u1,u6,u7,u8,u9⟩
  have w9:=natW (x:=((q - 1+t:Nat):Int)+1) (q - 1+(t+1)) (by omega) (by omega)
  refine vcE.ex (by simp (disch:=first|assumption|omega) only[go_sem,↓reduceIte,u9,w9]; rfl) ?_
  refine⟨3 - (t+1),by omega,t+1,Sort.xorNext r,_,rfl,by omega,?_,s3,hr3,step,?_,?_,?_,?_,?_,?_⟩
  ·rw[Sort.swp_size]
   exact hdk
  all_goals simp only[upd_app,qa,↓reduceIte,u0,u1,u6,u7,u8]
 refine vcE.block (vcE.then (fun e' tm' hp'=>e'=.normal∧Srt L e id hp0 hp' dk∧hp'[rb]? = some (some (.row tx [.int .u64 ((Sort.xorNext r).toNat:Int)]))∧tm' 0=v∧tm' 1=.int .i64 a∧tm' 6=.int .i64 n∧tm' 7=.ptr rb 0∧tm' 8=.int .u64 (M:Int)∧tm' 9=.int .i64 ((q - 1+t:Nat):Int)∧tm' 10=.int .i64 (O:Int)) ?_ ?_)
 ·rw[show bpR6 fnp fxs tx=(bpR6 fnp fxs tx).take 1++(bpR6 fnp fxs tx).drop 1 from rfl]
  refine vcE.app (vcE.call (f:=fxs) (caps:=[]) (ys:=[.ptr rb 0]) rfl ?_ (xs_calls hm hT hxs (X:=r.toNat) (tx:=tx) r.toNat_lt hr2) ?_)
  ·simp only[evsE,evE,upd_app,qa,↓reduceIte,t7]
  rintro r' hp' ⟨rfl,rfl⟩
  rw[hR]
  refine⟨rfl,vcE.ex (by simp (disch:=first|assumption|omega) only[go_sem,↓reduceIte,qa,putE,t8,wM',↓a1,wO]; rfl) ?_⟩
  refine⟨rfl,s2.other (by omega) hrne _,xf hrlt,?_,?_,?_,?_,?_,?_,?_⟩
  all_goals simp only[upd_app,qa,↓reduceIte,t0,t1,t6,t7,t8,t9]
 clear t0 t1 t6 t7 t8 t9 s2 hr2 hrlt
 rintro e' tm hp3 ⟨rfl,s2,hr2,t0,t1,t6,t7,t8,t9,t10⟩
 refine vcE.then (fun e' tm' hp'=>e'=.normal∧hp'=hp3∧tm' 0=v∧tm' 1=.int .i64 a∧tm' 6=.int .i64 n∧tm' 7=.ptr rb 0∧tm' 8=.int .u64 (M:Int)∧tm' 9=.int .i64 ((q - 1+t:Nat):Int)∧tm' 10=.int .i64 ((if O≥n then O - n else O:Nat):Int)) ?_ ?_
 ·by_cases hge:O≥n
  ·have hge':(n:Int)≤(O:Int):=by omega
   have wd:=natW (x:=(O:Int) - (n:Int)) (O - n) (by omega) (by omega)
   simp only[if_pos hge]
   refine vcE.ex (by simp (disch:=first|assumption|omega) only[go_sem,↓reduceIte,t10,qa,t6,hge',wd]; rfl) ?_
   refine⟨rfl,rfl,?_,?_,?_,?_,?_,?_,?_⟩
   all_goals simp only[upd_app,qa,↓reduceIte,t0,t1,t6,t7,t8,t9]
  ·have hge':¬ (n:Int)≤(O:Int):=by omega
   simp only[if_neg hge]
   refine vcE.ex (by simp (disch:=first|assumption|omega) only[go_sem,↓reduceIte,t10,qa,t6,hge',decide_false]; rfl) ?_
   refine⟨rfl,rfl,?_,?_,?_,?_,?_,?_,?_⟩
   all_goals simp only[upd_app,qa,↓reduceIte,t0,t1,t6,t7,t8,t9,t10]
 clear t0 t1 t6 t7 t8 t9 t10
 rintro e' tm hp' ⟨rfl,rfl,t0,t1,t6,t7,t8,t9,t10⟩
 have hoth:(if O≥n then O - n else O:Nat)<n:=by split<;>omega
 generalize (if O≥n then O - n else O:Nat)=o at *
 have g1:q - 1+t<dk.size:=by omega
 have g2:a+o<dk.size:=by omega
 have x1:=s2.get g1
 have y1:=hv.at_ hdk g1
 have y2:=hv.at_ hdk g2
 have p1:=pick_at (L:=L) g1
 have p2:=pick_at (L:=L) g2
 have wo:=natW (x:=(a:Int)+(o:Int)) (a+o) (by omega) (by omega)
 obtain⟨z1,z2,hst1,hst2,s3,hk3⟩:=s2.swapk g1 g2
 refine vcE.ex (by simp (disch:=first|assumption|omega) only[go_sem,exOps.eq_2,↓reduceIte,t0,qa,t9,reduceCtorEq,t1,t10,wo,y2,x1,↓p2,y1,↓p1,↓hst1,↓hst2]; rfl) ?_
 refine⟨rfl,s3,by rw[hk3 _ hrne]; exact hr2,?_,?_,?_,?_,?_,?_⟩
 all_goals simp only[upd_app,qa,↓reduceIte,t0,t1,t6,t7,t8,t9]
end
end
section
set_option linter.unusedSectionVars false
variable [Mx]
open Go
structure SrtF (P:Program) (less:FuncId) where
 (fsd fins fhs fo2 fmd fma fcp frv fl64 fl32 fbl fnp fxs fbp fpi fpe fpt fpdq:FuncId)
 (ti tx:TypeId)
 (hsd' hins' hhs' ho2' hmd' hma' hcp' hrv' h64' hbl' hnp' hxs' hbp' hpi' hpe' hpt' hpdq':Nat→Nat)
 hsd:compF P hsd' fsd=some ⟨sdC less,sdN,[]⟩
 hins:compF P hins' fins=some ⟨insC less,insN,[]⟩
 hhs:compF P hhs' fhs=some ⟨hsC fsd,hsN,[]⟩
 ho2:compF P ho2' fo2=some ⟨o2C less,o2N,[.t 8,.t 9]⟩
 hmd:compF P hmd' fmd=some ⟨mdC fo2,mdN,[.t 10]⟩
 hma:compF P hma' fma=some ⟨maC fmd,maN,[.t 6]⟩
 hcp:compF P hcp' fcp=some ⟨cpC fmd fma ti,cpN,[.t 6,.t 7]⟩
 hrv:compF P hrv' frv=some ⟨rvC,rvN,[]⟩
 h64:compF P h64' fl64=some ⟨l64C,l64N,[.t 2]⟩
 hbl:compF P hbl' fbl=some ⟨blC fl64 fl32,blN,[.t 2]⟩
 hnp:compF P hnp' fnp=some ⟨npC fbl,npN,[.t 2]⟩
 hxs:compF P hxs' fxs=some ⟨xsC,xsN,[.t 2]⟩
 hbp:compF P hbp' fbp=some ⟨bpC fnp fxs tx,bpN,[]⟩
 hpi:compF P hpi' fpi=some ⟨piC less,piN,[.t 6]⟩
 hpe:compF P hpe' fpe=some ⟨peC less,peN,[.t 8]⟩
 hpt:compF P hpt' fpt=some ⟨ptC less,ptN,[.t 8,.t 9]⟩
 hpdq:compF P hpdq' fpdq=some ⟨pdqC less fins fhs fbp fcp frv fpi fpe fpt fpdq,pdqN,[]⟩
section
variable {α:Type} [Inhabited α] {L:El1 α} {lt:α→α→Bool} {P:Program} {T:Tab} {less:FuncId} {hint:Nat→Nat} {f:FuncId} {e:TypeId} {id:Nat} {hp0 hp:HP} {d:Array α} {v:AV}
def Todo (lt:α→α→Bool) (a b:Nat) (d:Array α) (a' b':Nat) (d':Array α):Prop:=∀ R,Sort.PermIn a' b' d' R→Sort.SortedIn lt a' b' R→Sort.PermIn a b d R∧Sort.SortedIn lt a b R
theorem Todo.perm {a b a' b':Nat} {d d1 d2:Array α} (h:Todo lt a b d a' b' d1) (hp:Sort.PermIn a' b' d1 d2):Todo lt a b d a' b' d2:=fun R h1 h2=>h R (Sort.permIn_trans _ _ _ _ _ hp h1) h2
def Done (L:El1 α) (lt:α→α→Bool) (e:TypeId) (id:Nat) (hp0:HP) (a b:Nat) (d:Array α) (r:AV) (hp':HP):Prop:=r=.tup []∧∃ R,Srt L e id hp0 hp' R∧Sort.PermIn a b d R∧Sort.SortedIn lt a b R
def Rg (v:AV) (a b l:Nat) (wb wp:Bool) (tm:Env):Prop:=tm 0=v∧tm 1=.int .i64 a∧tm 2=.int .i64 b∧tm 3=.int .i64 l∧tm 8=.bool wb∧tm 9=.bool wp∧tm 10=.int .i64 ((b - a:Nat):Int)
theorem pdq_calls (hm:P.follows .mixedOrders=true) (hT:TabOk P T) (hless:Lss L lt T less) (hlt:Sort.SWO lt) (F:SrtF P less):∀ (n:Nat) {hp:HP} {d:Array α} (s:Srt L e id hp0 hp d) (hv:SlA id d v) {a b l:Nat} (hn:b - a<n) (hab:a≤b) (hb:b≤d.size) (hl:l≤1000) (hB:Sort.Below lt a b d),
  ACalls P F.fpdq [v,.int .i64 a,.int .i64 b,.int .i64 l] hp (Done L lt e id hp0 a b d):=by
 obtain⟨fsd,fins,fhs,fo2,fmd,fma,fcp,frv,fl64,fl32,fbl,fnp,fxs,fbp,fpi,fpe,fpt,fpdq,ti,tx,hsd',hins',hhs',ho2',hmd',hma',hcp',hrv',h64',hbl',hnp',hxs',hbp',hpi',hpe',hpt',hpdq',hsd,hins,hhs,ho2,hmd,hma,hcp,hrv,h64,hbl,hnp,hxs,hbp,hpi,hpe,hpt,hpdq⟩:=F
 simp only
 intro n
 induction n with
 | zero=>intro hp d s hv a b l hn; omega
 | succ n ih =>
 intro hp d s hv a b l hn hab hb hl hB
 refine calls_e hm hT hpdq (by rfl) (by simp[pdqN]) ?_
 have hsz:=hv.2
 refine vcE.s1 (k:=vcE.s1 (k:=vcE.block (vcE.loop (by intro l tm hp h; simp[RetE] at h) (fun k tm hp => ∃ (a' b' l':Nat) (wb wp:Bool) (d':Array α),k=b' - a'∧a'≤b'∧b' - a'≤b - a∧b'≤d.size∧l'≤1000∧d'.size=d.size∧Srt L e id hp0 hp d'∧Sort.Below lt a' b' d'∧Todo lt a b d a' b' d'∧tm 0=v∧tm 1=.int .i64 a'∧tm 2=.int .i64 b'∧tm 3=.int .i64 l'∧tm 8=.bool wb∧tm 9=.bool wp) (b - a) ⟨a,b,l,true,true,d,rfl,hab,by omega,hb,hl,rfl,s,hB,fun R h1 h2=>⟨h1,h2⟩,rfl,rfl,rfl,rfl,rfl,rfl⟩ ?_)))
 clear s
 rintro k tm hp ⟨a1,b1,l1,wb,wp,d1,rfl,hab1,hba1,hb1,hl1,hd1,s,hB1,hTo,t0,t1,t2,t3,t8,t9⟩
 have hv1:=hv.of hd1
 have w1:=natW (x:=(b1:Int) - (a1:Int)) (b1 - a1) (by omega) (by omega)
 refine vcE.block (vcE.step (by simp (disch:=first|assumption|omega) only[go_sem,↓reduceIte,qa,t1,t2,w1]; rfl) ?_)
 have done:∀ {hp:HP} {d2:Array α} {tm:Env},Srt L e id hp0 hp d2→Sort.PermIn a1 b1 d1 d2→Sort.SortedIn lt a1 b1 d2→RetE [] (Done L lt e id hp0 a b d) .ret tm hp:=by
  intro hp d2 tm s2 h1 h2
  obtain⟨g1,g2⟩:=hTo _ h1 h2
  exact⟨.tup [],rfl,rfl,d2,s2,g1,g2⟩
 by_cases h12:b1 - a1≤12
 ·have h12':((b1 - a1:Nat):Int)≤12:=by omega
  refine vcE.seq (vcE.step (by simp (disch:=first|assumption|omega) only[go_sem,↓reduceIte,h12',decide_true]; rfl) (vcE.condTrue (by simp only[evE,upd_app,↓reduceIte]) (vcE.then (fun e' tm' hp'=>e'=.normal∧RetE [] (Done L lt e id hp0 a b d) .ret tm' hp') ?_ ?_)))
  ·rw[show pdqR4 less fins fhs fbp fcp frv fpi fpe fpt fpdq=(pdqR4 less fins fhs fbp fcp frv fpi fpe fpt fpdq).take 3++(pdqR4 less fins fhs fbp fcp frv fpi fpe fpt fpdq).drop 3 from rfl]
   refine vcE.app (vcE.ex (by simp (disch:=first|assumption|omega) only[go_sem,↓reduceIte,qa,reduceCtorEq,t0,t1,t2]; rfl) ⟨rfl,vcE.call (f:=fins) (caps:=[]) (ys:=[v,.int .i64 a1,.int .i64 b1]) rfl ?_ (ins_calls hm hT hless hins s hv1 (a:=a1) (b:=b1) (by omega) (by omega)) ?_⟩)
   ·simp only[evsE,evE,upd_app,qa,↓reduceIte]
   rintro r hp' ⟨rfl,s2⟩
   obtain⟨g1,g2⟩:=Sort.insertionSort_holds hlt d1 a1 b1 hab1 (by omega)
   exact⟨rfl,done s2 g1 g2⟩
  ·rintro e' tm' hp' ⟨rfl,h⟩
   exact vcE.ex (by simp (disch:=first|assumption|omega) only[go_sem]; rfl) h
 have h12':¬ ((b1 - a1:Nat):Int)≤12:=by omega
 refine vcE.step (by simp (disch:=first|assumption|omega) only[go_sem,↓reduceIte,h12',decide_false]; rfl) ?_
 by_cases hl0:l1=0
 ·subst hl0
  refine vcE.seq (vcE.step (by simp (disch:=first|assumption|omega) only[go_sem,↓reduceIte,qa,t3]; rfl) (vcE.condTrue (by simp only[evE,upd_app,↓reduceIte]) (vcE.then (fun e' tm' hp'=>e'=.normal∧RetE [] (Done L lt e id hp0 a b d) .ret tm' hp') ?_ ?_)))
  ·rw[show pdqR6 less fins fhs fbp fcp frv fpi fpe fpt fpdq=(pdqR6 less fins fhs fbp fcp frv fpi fpe fpt fpdq).take 3++(pdqR6 less fins fhs fbp fcp frv fpi fpe fpt fpdq).drop 3 from rfl]
   refine vcE.app (vcE.ex (by simp (disch:=first|assumption|omega) only[go_sem,↓reduceIte,qa,reduceCtorEq,t0,t1,t2]; rfl) ⟨rfl,vcE.call (f:=fhs) (caps:=[]) (ys:=[v,.int .i64 a1,.int .i64 b1]) rfl ?_ (hs_calls hm hT hless hsd hhs s hv1 (a:=a1) (b:=b1) (by omega) (by omega)) ?_⟩)
   ·simp only[evsE,evE,upd_app,qa,↓reduceIte]
   rintro r hp' ⟨rfl,s2⟩
   obtain⟨g1,g2⟩:=Sort.heapSort_holds hlt d1 a1 b1 hab1 (by omega)
   exact⟨rfl,done s2 g1 g2⟩
  ·rintro e' tm' hp' ⟨rfl,h⟩
   exact vcE.ex (by simp (disch:=first|assumption|omega) only[go_sem]; rfl) h
 have hl0':¬ (l1:Int)=0:=by omega
 refine vcE.step (by simp (disch:=first|assumption|omega) only[go_sem,↓reduceIte,qa,t3,hl0',decide_false]; rfl) ?_
 have hlt1:a1<b1:=by omega
 -- patterns
 refine vcE.then (fun e' tm' hp'=>e'=.normal∧∃ (l2:Nat) (d2:Array α),l2≤1000∧Sort.PermIn a1 b1 d1 d2∧Srt L e id hp0 hp' d2∧Rg v a1 b1 l2 wb wp tm') ?_ ?_
 ·cases wb with
  | true =>
   refine vcE.ex (by simp (disch:=first|assumption|omega) only[go_sem,↓reduceIte,qa,t8]; rfl) ?_
   refine⟨rfl,l1,d1,hl1,Sort.permIn_refl _ _ _,s,?_⟩
   refine⟨?_,?_,?_,?_,?_,?_,?_⟩
   all_goals simp only[upd_app,qa,↓reduceIte,t0,t1,t2,t3,t8,t9]
  | false =>
   refine vcE.step (by simp (disch:=first|assumption|omega) only[go_sem,↓reduceIte,qa,t8]; rfl) (vcE.condTrue (by simp only[evE,upd_app,↓reduceIte]) (vcE.then (fun e' tm' hp'=>e'=.normal∧∃ (d2:Array α),Sort.PermIn a1 b1 d1 d2∧Srt L e id hp0 hp' d2∧Rg v a1 b1 l1 false wp tm') ?_ ?_))
   ·rw[show pdqR8 less fins fhs fbp fcp frv fpi fpe fpt fpdq=(pdqR8 less fins fhs fbp fcp frv fpi fpe fpt fpdq).take 3++(pdqR8 less fins fhs fbp fcp frv fpi fpe fpt fpdq).drop 3 from rfl]
    refine vcE.app (vcE.ex (by simp (disch:=first|assumption|omega) only[go_sem,↓reduceIte,qa,reduceCtorEq,t0,t1,t2]; rfl) ⟨rfl,vcE.call (f:=fbp) (caps:=[]) (ys:=[v,.int .i64 a1,.int .i64 b1]) rfl ?_ (bp_calls hm hT h64 hbl hnp hxs hbp s hv1 (a:=a1) (b:=b1) (by omega) (by omega)) ?_⟩)
    ·simp only[evsE,evE,upd_app,qa,↓reduceIte]
    rintro r hp' ⟨rfl,s2,hd2⟩
    refine⟨rfl,_,Sort.breakPatterns_holds d1 a1 b1 hab1 (by omega),s2,?_⟩
    refine⟨?_,?_,?_,?_,?_,?_,?_⟩
    all_goals simp only[putE,upd_app,qa,↓reduceIte,t0,t1,t2,t3,t8,t9]
   ·rintro e' tm' hp' ⟨rfl,d2,p2,s2,u0,u1,u2,u3,u8,u9,u10⟩
    have w3:=natW (x:=(l1:Int) - 1) (l1 - 1) (by omega) (by omega)
    refine vcE.ex (by simp (disch:=first|assumption|omega) only[go_sem,↓reduceIte,u3,w3]; rfl) ?_
    refine⟨rfl,l1 - 1,d2,by omega,p2,s2,?_⟩
    refine⟨?_,?_,?_,?_,?_,?_,?_⟩
    all_goals simp only[upd_app,qa,↓reduceIte,u0,u1,u2,u8,u9,u10]
 clear t0 t1 t2 t3 t8 t9 s
 rintro e' tm hp' ⟨rfl,l2,d2,hl2,p2,s,t0,t1,t2,t3,t8,t9,t10⟩
 have hd2:d2.size=d.size:=p2.1.trans hd1
 have hv2:=hv.of hd2
 -- the pivot
 obtain⟨hc1,hc2⟩:=Sort.choosePivot_holds lt d2 a1 b1 hlt1
 refine vcE.then (fun e' tm' hp'=>e'=.normal∧Srt L e id hp0 hp' d2∧Rg v a1 b1 l2 wb wp tm'∧tm' 11=.int .i64 ((Sort.choosePivot lt d2 a1 b1).1:Nat)∧tm' 12=.int .i64 (hintI (Sort.choosePivot lt d2 a1 b1).2)) ?_ ?_
 ·rw[show pdqR10 less fins fhs fbp fcp frv fpi fpe fpt fpdq=(pdqR10 less fins fhs fbp fcp frv fpi fpe fpt fpdq).take 3++((pdqR10 less fins fhs fbp fcp frv fpi fpe fpt fpdq).drop 3).take 1++(pdqR10 less fins fhs fbp fcp frv fpi fpe fpt fpdq).drop 4 from rfl]
  refine vcE.app (vcE.app (vcE.ex (by simp (disch:=first|assumption|omega) only[go_sem,↓reduceIte,qa,t0,t1,t2]; rfl) ⟨rfl,vcE.call (f:=fcp) (caps:=[]) (ys:=[v,.int .i64 a1,.int .i64 b1]) rfl ?_ (cp_calls hm hT hless ho2 hmd hma hcp s hv2 (a:=a1) (b:=b1) (by omega) (by omega)) ?_⟩))
  ·simp only[evsE,evE,upd_app,qa,↓reduceIte]
  rintro r hp' ⟨rfl,s2⟩
  refine⟨rfl,vcE.ex (by simp (disch:=first|assumption|omega) only[go_sem,↓reduceIte,qa,putE]; rfl) ?_⟩
  refine⟨rfl,s2,⟨?_,?_,?_,?_,?_,?_,?_⟩,?_,?_⟩
  all_goals simp only[upd_app,qa,↓reduceIte,t0,t1,t2,t3,t8,t9,t10]
 clear t0 t1 t2 t3 t8 t9 t10 s
 rintro e' tm hp' ⟨rfl,s,⟨t0,t1,t2,t3,t8,t9,t10⟩,t11,t12⟩
 generalize Sort.choosePivot lt d2 a1 b1=c at *
 obtain⟨c1,ch⟩:=c
 simp only at *
 -- turned round
 refine vcE.then (fun e' tm' hp'=>e'=.normal∧∃ (p:Nat) (hi:Int) (d3:Array α),a1≤p∧p<b1∧Sort.PermIn a1 b1 d1 d3∧Srt L e id hp0 hp' d3∧Rg v a1 b1 l2 wb wp tm'∧tm' 11=.int .i64 p∧tm' 12=.int .i64 hi) ?_ ?_
 ·by_cases hdec:hintI ch=2
  ·rw[hdec] at t12
   refine vcE.step (by simp (disch:=first|assumption|omega) only[go_sem,↓reduceIte,t12]; rfl) (vcE.condTrue (by simp only[evE,upd_app,↓reduceIte]) (vcE.then (fun e' tm' hp'=>e'=.normal∧Srt L e id hp0 hp' (Sort.reverseRange d2 a1 b1)∧Rg v a1 b1 l2 wb wp tm'∧tm' 11=.int .i64 c1) ?_ ?_))
   ·rw[show pdqR12 less fins fhs fbp fcp frv fpi fpe fpt fpdq=(pdqR12 less fins fhs fbp fcp frv fpi fpe fpt fpdq).take 3++(pdqR12 less fins fhs fbp fcp frv fpi fpe fpt fpdq).drop 3 from rfl]
    refine vcE.app (vcE.ex (by simp (disch:=first|assumption|omega) only[go_sem,↓reduceIte,qa,reduceCtorEq,t0,t1,t2]; rfl) ⟨rfl,vcE.call (f:=frv) (caps:=[]) (ys:=[v,.int .i64 a1,.int .i64 b1]) rfl ?_ (rv_calls hm hT hrv s hv2 (a:=a1) (b:=b1) (by omega) (by omega)) ?_⟩)
    ·simp only[evsE,evE,upd_app,qa,↓reduceIte]
    rintro r hp' ⟨rfl,s2,hd3⟩
    refine⟨rfl,s2,⟨?_,?_,?_,?_,?_,?_,?_⟩,?_⟩
    all_goals simp only[putE,upd_app,qa,↓reduceIte,t0,t1,t2,t3,t8,t9,t10,t11]
   ·rintro e' tm' hp' ⟨rfl,s2,⟨u0,u1,u2,u3,u8,u9,u10⟩,u11⟩
    have w3:=natW (x:=(b1:Int) - 1) (b1 - 1) (by omega) (by omega)
    have w4:=natW (x:=(c1:Int) - (a1:Int)) (c1 - a1) (by omega) (by omega)
    have w5:=natW (x:=((b1 - 1:Nat):Int) - ((c1 - a1:Nat):Int)) (b1 - 1 - (c1 - a1)) (by omega) (by omega)
    refine vcE.ex (by simp (disch:=first|assumption|omega) only[go_sem,↓reduceIte,qa,u1,u2,u11,w3,w4,w5]; rfl) ?_
    refine⟨rfl,b1 - 1 - (c1 - a1),1,_,by omega,by omega,Sort.permIn_trans _ _ _ _ _ p2 (Sort.reverseRange_holds d2 a1 b1 hab1 (by omega)),s2,⟨?_,?_,?_,?_,?_,?_,?_⟩,?_,?_⟩
    all_goals simp only[upd_app,qa,↓reduceIte,u0,u1,u2,u3,u8,u9,u10]
  ·refine vcE.ex (by simp (disch:=first|assumption|omega) only[go_sem,↓reduceIte,t12,hdec,decide_false]; rfl) ?_
   refine⟨rfl,c1,hintI ch,d2,hc1,hc2,p2,s,⟨?_,?_,?_,?_,?_,?_,?_⟩,?_,?_⟩
   all_goals simp only[upd_app,qa,↓reduceIte,t0,t1,t2,t3,t8,t9,t10,t11,t12]
 clear t0 t1 t2 t3 t8 t9 t10 t11 t12 s p2 hd2 hv2 hc1 hc2 d2 hl1 l1 hl0 hl0' tm
 rintro e' tm hp' ⟨rfl,p,hi,d3,hp1,hp2,p3,s,⟨t0,t1,t2,t3,t8,t9,t10⟩,t11,t12⟩
 have hd3:d3.size=d.size:=p3.1.trans hd1
 have hv3:=hv.of hd3
 have hB3:=hB1.perm (by omega) p3
 -- perhaps it is sorted almost
 refine vcE.then (fun e' tm' hp'=>RetE [] (Done L lt e id hp0 a b d) .ret tm' hp'∧e'=.ret∨e'=.normal∧∃ (d4:Array α),Sort.PermIn a1 b1 d1 d4∧Srt L e id hp0 hp' d4∧Rg v a1 b1 l2 wb wp tm'∧tm' 11=.int .i64 p) ?_ ?_
 ·by_cases hyes:(wb && wp && decide (hi=1))=true
  ·simp only[qp,decide_eq_true_eq] at hyes
   obtain⟨⟨rfl,rfl⟩,rfl⟩:=hyes
   refine vcE.step (by simp (disch:=first|assumption|omega) only[go_sem,↓reduceIte,qa,t8,t9,t12]; rfl) (vcE.condTrue (by simp only[evE,upd_app,↓reduceIte]) (vcE.then (fun e' tm' hp'=>e'=.normal∧Srt L e id hp0 hp' (Sort.partialInsertionSort lt d3 a1 b1).1∧Rg v a1 b1 l2 true true tm'∧tm' 11=.int .i64 p∧tm' 72=.bool (Sort.partialInsertionSort lt d3 a1 b1).2) ?_ ?_))
   ·rw[show pdqR16 less fins fhs fbp fcp frv fpi fpe fpt fpdq=(pdqR16 less fins fhs fbp fcp frv fpi fpe fpt fpdq).take 3++(pdqR16 less fins fhs fbp fcp frv fpi fpe fpt fpdq).drop 3 from rfl]
    refine vcE.app (vcE.ex (by simp (disch:=first|assumption|omega) only[go_sem,↓reduceIte,qa,reduceCtorEq,t0,t1,t2]; rfl) ⟨rfl,vcE.call (f:=fpi) (caps:=[]) (ys:=[v,.int .i64 a1,.int .i64 b1]) rfl ?_ (pi_calls hm hT hless hpi s hv3 (a:=a1) (b:=b1) (by omega) (by omega)) ?_⟩)
    ·simp only[evsE,evE,upd_app,qa,↓reduceIte]
    rintro r hp' ⟨rfl,s2,hd4⟩
    refine⟨rfl,s2,⟨?_,?_,?_,?_,?_,?_,?_⟩,?_,?_⟩
    all_goals simp only[putE,upd_app,qa,↓reduceIte,t0,t1,t2,t3,t8,t9,t10,t11]
   ·obtain⟨g1,g2⟩:=Sort.partialInsertionSort_holds hlt d3 a1 b1 hlt1 (by omega) hB3
    rintro e' tm' hp' ⟨rfl,s2,hr,u11,u72⟩
    generalize Sort.partialInsertionSort lt d3 a1 b1=q at *
    obtain⟨d4,qb⟩:=q
    simp only at *
    have p4:=Sort.permIn_trans _ _ _ _ _ p3 g1
    cases qb with
    | true =>
     refine vcE.ex (by simp (disch:=first|assumption|omega) only[go_sem,u72]; rfl) ?_
     exact .inl ⟨done s2 p4 (g2 rfl),rfl⟩
    | false =>
     refine vcE.ex (by simp (disch:=first|assumption|omega) only[go_sem,u72]; rfl) ?_
     exact .inr ⟨rfl,d4,p4,s2,hr,u11⟩
  ·have no:RetE [] (Done L lt e id hp0 a b d) .ret tm hp'∧Exit.normal=.ret∨Exit.normal=.normal∧∃ (d4:Array α),Sort.PermIn a1 b1 d1 d4∧Srt L e id hp0 hp' d4∧Rg v a1 b1 l2 wb wp tm∧tm 11=.int .i64 p:=.inr ⟨rfl,d3,p3,s,⟨t0,t1,t2,t3,t8,t9,t10⟩,t11⟩
   cases wb with
   | false =>
    refine vcE.ex (by simp (disch:=first|assumption|omega) only[go_sem,↓reduceIte,qa,t8]; rfl) ?_
    refine .inr ⟨rfl,d3,p3,s,⟨?_,?_,?_,?_,?_,?_,?_⟩,?_⟩
    all_goals simp only[upd_app,qa,↓reduceIte,t0,t1,t2,t3,t8,t9,t10,t11]
   | true =>
   cases wp with
   | false =>
    refine vcE.ex (by simp (disch:=first|assumption|omega) only[go_sem,↓reduceIte,qa,t8,t9]; rfl) ?_
    refine .inr ⟨rfl,d3,p3,s,⟨?_,?_,?_,?_,?_,?_,?_⟩,?_⟩
    all_goals simp only[upd_app,qa,↓reduceIte,t0,t1,t2,t3,t8,t9,t10,t11]
   | true =>
    have hne:¬ hi=1:=by simpa using hyes
    refine vcE.ex (by simp (disch:=first|assumption|omega) only[go_sem,↓reduceIte,qa,t8,t9,t12,hne,decide_false]; rfl) ?_
    refine .inr ⟨rfl,d3,p3,s,⟨?_,?_,?_,?_,?_,?_,?_⟩,?_⟩
    all_goals simp only[upd_app,qa,↓reduceIte,t0,t1,t2,t3,t8,t9,t10,t11]
 clear t0 t1 t2 t3 t8 t9 t10 t11 t12 s p3 hd3 hv3 hB3 d3 tm
 rintro e' tm hp' (⟨h,rfl⟩|⟨rfl,d4,p4,s,⟨t0,t1,t2,t3,t8,t9,t10⟩,t11⟩)
 ·exact h
 have hd4:d4.size=d.size:=p4.1.trans hd1
 have hv4:=hv.of hd4
 have hB4:=hB1.perm (by omega) p4
 have hT4:=hTo.perm p4
 have hp3:p<d4.size:=by omega
 have y2:=hv4.1 p hp3
 have q2:=pick_at (L:=L) hp3
 have x1:=s.get hp3
 have hfz:=L.fz
 -- all that is there equals what stands before it?
 have eqs:∀ (hce:(decide (a1 > 0) && !lt d4[a1 - 1]! d4[p]!)=true) {tm:Env},tm 0=v→tm 1=.int .i64 a1→tm 2=.int .i64 b1→tm 3=.int .i64 l2→tm 8=.bool wb→tm 9=.bool wp→tm 11=.int .i64 p→vcE P hpdq' T pdqN (IC.seq (IC.reg (pdqR18 less fins fhs fbp fcp frv fpi fpe fpt fpdq)) (IC.seq (IC.reg (pdqR19 less fins fhs fbp fcp frv fpi fpe fpt fpdq)) (IC.exit 1))) tm hp' fun e' tm' hp'=>e'=.exit 1∧∃ k':Nat,k'<b1 - a1∧∃ (a' b' l':Nat) (wb wp:Bool) (d':Array α),k'=b' - a'∧a'≤b'∧b' - a'≤b - a∧b'≤d.size∧l'≤1000∧d'.size=d.size∧Srt L e id hp0 hp' d'∧Sort.Below lt a' b' d'∧Todo lt a b d a' b' d'∧tm' 0=v∧tm' 1=.int .i64 a'∧tm' 2=.int .i64 b'∧tm' 3=.int .i64 l'∧tm' 8=.bool wb∧tm' 9=.bool wp:=by
  intro hce tm t0 t1 t2 t3 t8 t9 t11
  simp only[qp,decide_eq_true_eq,Bool.not_eq_true'] at hce
  have hx:Sort.partitionEqual lt d4 a1 b1 p=((Sort.partitionEqual lt d4 a1 b1 p).1,(Sort.partitionEqual lt d4 a1 b1 p).2):=rfl
  obtain⟨g1,g2,g3,g4,g5⟩:=Sort.round_eq hlt (Sort.partitionEqual_holds lt) hce.1 hp1 hp2 (by omega) hB4 hce.2 hx
  refine vcE.then (fun e' tm' hp'=>e'=.normal∧Srt L e id hp0 hp' (Sort.partitionEqual lt d4 a1 b1 p).2∧tm' 0=v∧tm' 2=.int .i64 b1∧tm' 3=.int .i64 l2∧tm' 8=.bool wb∧tm' 9=.bool wp∧tm' 13=.int .i64 ((Sort.partitionEqual lt d4 a1 b1 p).1:Nat)) ?_ ?_
  ·rw[show pdqR18 less fins fhs fbp fcp frv fpi fpe fpt fpdq=(pdqR18 less fins fhs fbp fcp frv fpi fpe fpt fpdq).take 4++((pdqR18 less fins fhs fbp fcp frv fpi fpe fpt fpdq).drop 4).take 1++(pdqR18 less fins fhs fbp fcp frv fpi fpe fpt fpdq).drop 5 from rfl]
   refine vcE.app (vcE.app (vcE.ex (by simp (disch:=first|assumption|omega) only[go_sem,↓reduceIte,qa,t0,t1,t2,t11]; rfl) ⟨rfl,vcE.call (f:=fpe) (caps:=[]) (ys:=[v,.int .i64 a1,.int .i64 b1,.int .i64 p]) rfl ?_ (pe_calls hm hT hless hpe s hv4 (a:=a1) (b:=b1) (p:=p) (by omega) (by omega) hp3) ?_⟩))
   ·simp only[evsE,evE,upd_app,qa,↓reduceIte]
   rintro r hp' ⟨rfl,s2,hd5⟩
   refine⟨rfl,vcE.ex (by simp (disch:=first|assumption|omega) only[go_sem,↓reduceIte,putE]; rfl) ?_⟩
   refine⟨rfl,s2,?_,?_,?_,?_,?_,?_⟩
   all_goals simp only[upd_app,qa,↓reduceIte,t0,t2,t3,t8,t9]
  ·rintro e' tm' hp' ⟨rfl,s2,u0,u2,u3,u8,u9,u13⟩
   generalize Sort.partitionEqual lt d4 a1 b1 p=q at *
   obtain⟨mid,d5⟩:=q
   simp only at *
   refine vcE.ex (by simp (disch:=first|assumption|omega) only[go_sem,↓reduceIte,u13]; rfl) ?_
   refine⟨rfl,b1 - mid,by omega,mid,b1,l2,wb,wp,d5,rfl,g2,by omega,hb1,hl2,by omega,s2,g4,?_,?_,?_,?_,?_,?_,?_⟩
   ·intro R h1 h2
    obtain⟨z1,z2⟩:=g5 R h1 h2
    exact hT4 R z1 z2
   all_goals simp only[upd_app,qa,↓reduceIte,u0,u2,u3,u8,u9]
 refine vcE.then (fun e' tm' hp''=>(e'=.exit 1∧∃ k':Nat,k'<b1 - a1∧∃ (a' b' l':Nat) (wb wp:Bool) (d':Array α),k'=b' - a'∧a'≤b'∧b' - a'≤b - a∧b'≤d.size∧l'≤1000∧d'.size=d.size∧Srt L e id hp0 hp'' d'∧Sort.Below lt a' b' d'∧Todo lt a b d a' b' d'∧tm' 0=v∧tm' 1=.int .i64 a'∧tm' 2=.int .i64 b'∧tm' 3=.int .i64 l'∧tm' 8=.bool wb∧tm' 9=.bool wp)∨e'=.normal∧hp''=hp'∧Rg v a1 b1 l2 wb wp tm'∧tm' 11=.int .i64 p) ?_ ?_
 ·by_cases ha0:a1=0
  ·subst ha0
   refine vcE.ex (by simp (disch:=first|assumption|omega) only[go_sem,↓reduceIte,qa,t1]; rfl) ?_
   refine .inr ⟨rfl,rfl,⟨?_,?_,?_,?_,?_,?_,?_⟩,?_⟩
   all_goals simp only[upd_app,qa,↓reduceIte,t0,t1,t2,t3,t8,t9,t10,t11]
  have ha0':(0:Int)<(a1:Int):=by omega
  have ha1:a1 - 1<d4.size:=by omega
  have y1:=hv4.1 (a1 - 1) ha1
  have q1:=pick_at (L:=L) ha1
  have w3:=natW (x:=(a1:Int) - 1) (a1 - 1) (by omega) (by omega)
  have hc:=hless d4[a1 - 1]! d4[p]!
  cases hle:lt d4[a1 - 1]! d4[p]! <;> rw[hle] at hc
  ·refine vcE.step (by simp (disch:=first|assumption|omega) only[go_sem,exOps.eq_2,↓reduceIte,t1,ha0',reduceCtorEq,t0,qa,w3,y1,x1,↓q1,t11,y2,↓q2,frzL.eq_2,hfz,hc,nidL.eq_2]; rfl) (vcE.condTrue (by simp only[evE,upd_app,↓reduceIte]) ?_)
   refine vcE.mono (eqs (by simp[hle]; omega) ?_ ?_ ?_ ?_ ?_ ?_ ?_) (fun e' tm' hp' h=>.inl h)
   all_goals simp only[upd_app,qa,↓reduceIte,t0,t1,t2,t3,t8,t9,t11]
  ·refine vcE.ex (by simp (disch:=first|assumption|omega) only[go_sem,exOps.eq_2,↓reduceIte,t1,ha0',reduceCtorEq,t0,qa,w3,y1,x1,↓q1,t11,y2,↓q2,frzL.eq_2,hfz,hc,nidL.eq_2]; rfl) ?_
   refine .inr ⟨rfl,rfl,⟨?_,?_,?_,?_,?_,?_,?_⟩,?_⟩
   all_goals simp only[upd_app,qa,↓reduceIte,t0,t1,t2,t3,t8,t9,t10,t11]
 clear t0 t1 t2 t3 t8 t9 t10 t11 eqs
 rintro e' tm hp'' (⟨rfl,h⟩|⟨rfl,rfl,⟨t0,t1,t2,t3,t8,t9,t10⟩,t11⟩)
 ·exact h
 -- the partition
 have hx:Sort.partition lt d4 a1 b1 p=((Sort.partition lt d4 a1 b1 p).1,(Sort.partition lt d4 a1 b1 p).2.1,(Sort.partition lt d4 a1 b1 p).2.2):=rfl
 obtain⟨g1,g2,g3,g4,g5,g6,g7⟩:=Sort.round_part hlt (Sort.partition_holds lt) hp1 hp2 (by omega) hB4 hx
 refine vcE.then (fun e' tm' hp'=>e'=.normal∧Srt L e id hp0 hp' (Sort.partition lt d4 a1 b1 p).2.2∧Rg v a1 b1 l2 wb wp tm'∧tm' 14=.int .i64 ((Sort.partition lt d4 a1 b1 p).1:Nat)∧tm' 15=.bool (Sort.partition lt d4 a1 b1 p).2.1) ?_ ?_
 ·rw[show pdqR20 less fins fhs fbp fcp frv fpi fpe fpt fpdq=(pdqR20 less fins fhs fbp fcp frv fpi fpe fpt fpdq).take 4++((pdqR20 less fins fhs fbp fcp frv fpi fpe fpt fpdq).drop 4).take 1++(pdqR20 less fins fhs fbp fcp frv fpi fpe fpt fpdq).drop 5 from rfl]
  refine vcE.app (vcE.app (vcE.ex (by simp (disch:=first|assumption|omega) only[go_sem,↓reduceIte,qa,t0,t1,t2,t11]; rfl) ⟨rfl,vcE.call (f:=fpt) (caps:=[]) (ys:=[v,.int .i64 a1,.int .i64 b1,.int .i64 p]) rfl ?_ (pt_calls hm hT hless hpt s hv4 (a:=a1) (b:=b1) (p:=p) (by omega) (by omega) hp3) ?_⟩))
  ·simp only[evsE,evE,upd_app,qa,↓reduceIte]
  rintro r hp' ⟨rfl,s2,hd5⟩
  refine⟨rfl,vcE.ex (by simp (disch:=first|assumption|omega) only[go_sem,↓reduceIte,qa,putE]; rfl) ?_⟩
  refine⟨rfl,s2,⟨?_,?_,?_,?_,?_,?_,?_⟩,?_,?_⟩
  all_goals simp only[upd_app,qa,↓reduceIte,t0,t1,t2,t3,t8,t9,t10]
 clear t0 t1 t2 t3 t8 t9 t10 t11 s y2 q2 x1
 rintro e' tm hp'' ⟨rfl,s,⟨t0,t1,t2,t3,t8,t9,t10⟩,t14,t15⟩
 generalize Sort.partition lt d4 a1 b1 p=q at *
 obtain⟨mid,ap,d5⟩:=q
 simp only at *
 have hd5:d5.size=d.size:=by omega
 have hv5:=hv.of hd5
 have w3:=natW (x:=(mid:Int) - (a1:Int)) (mid - a1) (by omega) (by omega)
 have w4:=natW (x:=(b1:Int) - (mid:Int)) (b1 - mid) (by omega) (by omega)
 have q8:((b1 - a1:Nat):Int).tdiv 8=(((b1 - a1) / 8:Nat):Int):=natQ (b1 - a1) 8
 have w5:=natW (x:=(((b1 - a1) / 8:Nat):Int)) ((b1 - a1) / 8) rfl (by omega)
 refine vcE.step (by simp (disch:=first|assumption|omega) only[go_sem,↓reduceIte,t15]; rfl) (vcE.step (by simp (disch:=first|assumption|omega) only[go_sem,↓reduceIte,qa,t1,t2,t14,w3,w4]; rfl) (vcE.step (by simp (disch:=first|assumption|omega) only[go_sem,↓reduceIte,qa,t10,q8,w5]; rfl) ?_))
 by_cases hle:mid - a1<b1 - mid
 ·have hle':((mid - a1:Nat):Int)<((b1 - mid:Nat):Int):=by omega
  refine vcE.step (by simp (disch:=first|assumption|omega) only[go_sem,↓reduceIte,qa,hle',decide_true]; rfl) (vcE.condTrue (by simp only[evE,upd_app,↓reduceIte]) (vcE.s1 (k:=vcE.then (fun e' tm' hp'=>e'=.normal∧∃ R,Srt L e id hp0 hp' R∧Sort.PermIn a1 mid d5 R∧Sort.SortedIn lt a1 mid R∧tm' 0=v∧tm' 2=.int .i64 b1∧tm' 3=.int .i64 l2∧(∃ wb,tm' 8=.bool wb)∧tm' 9=.bool ap∧tm' 14=.int .i64 mid) ?_ ?_)))
  ·rw[show pdqR26 less fins fhs fbp fcp frv fpi fpe fpt fpdq=(pdqR26 less fins fhs fbp fcp frv fpi fpe fpt fpdq).take 4++(pdqR26 less fins fhs fbp fcp frv fpi fpe fpt fpdq).drop 4 from rfl]
   refine vcE.app (vcE.ex (by simp (disch:=first|assumption|omega) only[go_sem,↓reduceIte,qa,reduceCtorEq,t0,t1,t3,t14]; rfl) ⟨rfl,vcE.call (f:=fpdq) (caps:=[]) (ys:=[v,.int .i64 a1,.int .i64 mid,.int .i64 l2]) rfl ?_ (ih s hv5 (a:=a1) (b:=mid) (l:=l2) (by omega) (by omega) (by omega) hl2 g4) ?_⟩)
   ·simp only[evsE,evE,upd_app,qa,↓reduceIte]
   rintro r hp' ⟨rfl,R,s2,z1,z2⟩
   refine⟨rfl,R,s2,z1,z2,?_,?_,?_,⟨decide (((mid - a1:Nat):Int)≥(((b1 - a1) / 8:Nat):Int)),?_⟩,?_,?_⟩
   all_goals simp only[putE,upd_app,qa,↓reduceIte,t0,t2,t3,t14]
  ·rintro e' tm' hp' ⟨rfl,R,s2,z1,z2,u0,u2,u3,⟨wb2,u8⟩,u9,u14⟩
   obtain⟨f1,f2⟩:=g6 R z1 z2
   have w6:=natW (x:=(mid:Int)+1) (mid+1) (by omega) (by omega)
   refine vcE.ex (by simp (disch:=first|assumption|omega) only[go_sem,↓reduceIte,u14,w6]; rfl) ?_
   have hsR:=z1.1
   refine⟨b1 - (mid+1),by omega,mid+1,b1,l2,wb2,ap,R,rfl,by omega,by omega,hb1,hl2,by omega,s2,f1,?_,?_,?_,?_,?_,?_,?_⟩
   ·intro R' h1 h2
    obtain⟨x1,x2⟩:=f2 R' h1 h2
    exact hT4 R' x1 x2
   all_goals simp only[upd_app,qa,↓reduceIte,u0,u2,u3,u8,u9]
 ·have hle':¬ ((mid - a1:Nat):Int)<((b1 - mid:Nat):Int):=by omega
  have w6:=natW (x:=(mid:Int)+1) (mid+1) (by omega) (by omega)
  refine vcE.step (by simp (disch:=first|assumption|omega) only[go_sem,↓reduceIte,qa,hle',decide_false]; rfl) (vcE.condFalse (by simp only[evE,upd_app,↓reduceIte]) (vcE.s1 (k:=vcE.then (fun e' tm' hp'=>e'=.normal∧∃ R,Srt L e id hp0 hp' R∧Sort.PermIn (mid+1) b1 d5 R∧Sort.SortedIn lt (mid+1) b1 R∧tm' 0=v∧tm' 1=.int .i64 a1∧tm' 3=.int .i64 l2∧(∃ wb,tm' 8=.bool wb)∧tm' 9=.bool ap∧tm' 14=.int .i64 mid) ?_ ?_)))
  ·rw[show pdqR29 less fins fhs fbp fcp frv fpi fpe fpt fpdq=(pdqR29 less fins fhs fbp fcp frv fpi fpe fpt fpdq).take 5++(pdqR29 less fins fhs fbp fcp frv fpi fpe fpt fpdq).drop 5 from rfl]
   refine vcE.app (vcE.ex (by simp (disch:=first|assumption|omega) only[go_sem,↓reduceIte,qa,reduceCtorEq,t0,t2,t3,t14,w6]; rfl) ⟨rfl,vcE.call (f:=fpdq) (caps:=[]) (ys:=[v,.int .i64 ((mid+1:Nat):Int),.int .i64 b1,.int .i64 l2]) rfl ?_ (ih s hv5 (a:=mid+1) (b:=b1) (l:=l2) (by omega) (by omega) (by omega) hl2 g5) ?_⟩)
   ·simp only[evsE,evE,upd_app,qa,↓reduceIte]
   rintro r hp' ⟨rfl,R,s2,z1,z2⟩
   refine⟨rfl,R,s2,z1,z2,?_,?_,?_,⟨decide (((b1 - mid:Nat):Int)≥(((b1 - a1) / 8:Nat):Int)),?_⟩,?_,?_⟩
   all_goals simp only[putE,upd_app,qa,↓reduceIte,t0,t1,t3,t14]
  ·rintro e' tm' hp' ⟨rfl,R,s2,z1,z2,u0,u1,u3,⟨wb2,u8⟩,u9,u14⟩
   obtain⟨f1,f2⟩:=g7 R z1 z2
   refine vcE.ex (by simp (disch:=first|assumption|omega) only[go_sem,↓reduceIte,u14]; rfl) ?_
   have hsR:=z1.1
   refine⟨mid - a1,by omega,a1,mid,l2,wb2,ap,R,rfl,by omega,by omega,by omega,hl2,by omega,s2,f1,?_,?_,?_,?_,?_,?_,?_⟩
   ·intro R' h1 h2
    obtain⟨x1,x2⟩:=f2 R' h1 h2
    exact hT4 R' x1 x2
   all_goals simp only[upd_app,qa,↓reduceIte,u0,u1,u3,u8,u9]
theorem srt_calls (hm:P.follows .mixedOrders=true) (hT:TabOk P T) (hless:Lss L lt T less) (hlt:Sort.SWO lt) (F:SrtF P less) (hf:compF P hint f=some ⟨srtC F.fbl F.fpdq,srtN,[]⟩) (s:Srt L e id hp0 hp d) (hv:SlA id d v) (hlen:∀ hp,lenA hp v=some (.int .i64 (d.size:Int))) (hlf:lenFits .slice v=true) :
  ACalls P f [v] hp (Done L lt e id hp0 0 d.size d):=by
 refine calls_e hm hT hf (by rfl) (by simp[srtN]) ?_
 have hsz:=hv.2
 have w1:=wrapU (n:=d.size) (by omega)
 refine vcE.step (by simp (disch:=first|assumption|omega) only[go_sem,↓reduceIte,hlen,hlf]; rfl) ?_
 rw[show srtR1 F.fbl F.fpdq=(srtR1 F.fbl F.fpdq).take 4++((srtR1 F.fbl F.fpdq).drop 4).take 1++(srtR1 F.fbl F.fpdq).drop 5 from rfl]
 refine vcE.app (vcE.app (vcE.ex (by simp (disch:=first|assumption|omega) only[go_sem,↓reduceIte,qa,reduceCtorEq,w1]; rfl) ⟨rfl,vcE.call (f:=F.fbl) (caps:=[]) (ys:=[.int .u64 (d.size:Int)]) rfl ?_ (bl_calls hm hT F.h64 F.hbl (by omega)) ?_⟩))
 ·simp only[evsE,evE,upd_app,↓reduceIte]
 rintro r hp' ⟨rfl,rfl⟩
 have hb:Sort.bitsLen d.size≤62:=(Sort.bitsLen_le_iff _ 62).2 (by omega)
 refine⟨rfl,vcE.call (f:=F.fpdq) (caps:=[]) (ys:=[v,.int .i64 ((0:Nat):Int),.int .i64 d.size,.int .i64 ((Sort.bitsLen d.size:Nat):Int)]) rfl ?_ (pdq_calls hm hT hless hlt F (d.size+1) s hv (a:=0) (b:=d.size) (l:=Sort.bitsLen d.size) (by omega) (Nat.zero_le _) (qk _) (by omega) (.inl rfl)) ?_⟩
 ·simp only[evsE,evE,putE,upd_app,qa,↓reduceIte]
  rfl
 rintro r hp' ⟨rfl,R,s2,h1,h2⟩
 exact⟨.tup [],rfl,rfl,R,s2,h1,h2⟩
theorem Done.eq {r:AV} {hp':HP} (hlt:Sort.SWO lt) (ha:∀ x y,lt x y=false→lt y x=false→x=y) (h:Done L lt e id hp0 0 d.size d r hp'):r=.tup []∧Srt L e id hp0 hp' (d.toList.mergeSort fun x y => !lt y x).toArray:=by
 obtain⟨hr,R,s2,h1,h2⟩:=h
 have:=Sort.sorted_unique_holds hlt ha d R h1 h2
 refine⟨hr,?_⟩
 rw[← this]
 exact s2
end
end
section
set_option linter.unusedSectionVars false
variable [Mx]
open Go Go.Proofs
def R1.byte:R1 UInt8 where
 v c:=.int .u8 c.toNat
 un:=fun
  | .int .u8 n=>if 0≤n∧n<256 then some (UInt8.ofNat n.toNat) else none
  | _=>none
 un_v c:=by
  have:=c.toNat_lt
  show (if (0:Int)≤(c.toNat:Int)∧(c.toNat:Int)<256 then some (UInt8.ofNat (c.toNat:Int).toNat) else none)=some c
  rw[if_pos (by omega),xk,UInt8.ofNat_toNat]
 un_some x c h:=by
  split at h
  ·split at h
   ·rename_i h0
    cases h
    have:((UInt8.ofNat (‹Int›).toNat).toNat:Int) = ‹Int›:=by
     rw[UInt8.toNat_ofNat']
     omega
    rw[this]
   ·cases h
  ·cases h
def elB:El1 UInt8 where
 E:=encB
 v c:=.int .u8 c.toNat
 hv _:=rfl
 one _:=rfl
 nt _ _ h:=by cases h
 ce _:=rfl
 nv _:=rfl
 fz _ _:=rfl
def ltB (x y:UInt8):Bool:=decide (x.toNat<y.toNat)
theorem swoB:Sort.SWO ltB:=by
 refine⟨fun x=>?_,fun x y z h1 h2=>?_,fun x y z h1 h2=>?_⟩
 all_goals simp only[ltB,decide_eq_true_eq,decide_eq_false_iff_not] at *
 all_goals omega
theorem ltB_tot (x y:UInt8) (h1:ltB x y=false) (h2:ltB y x=false):x=y:=by
 simp only[ltB,decide_eq_false_iff_not] at h1 h2
 exact UInt8.toNat_inj.1 (by omega)
theorem pNaN (c:UInt8):PCF qi 134 [.int .u8 c.toNat] (.bool false):=by
 refine pcf_e hmG (qJ _) comp134 (by decide) (by simp) (nidL_ok rfl) ?_
 refine vcE.ex (by simp (disch:=first|assumption|omega) only[go_sem,↓reduceIte,qa,reduceCtorEq,xB]; rfl) ?_
 exact⟨_,rfl,rfl⟩
theorem pNaN2 (c:UInt8):PCF qi 114 [.int .u8 c.toNat] (.bool false):=by
 refine pcf_e hmG (qJ _) comp114 (by decide) (by simp) (nidL_ok rfl) ?_
 refine vcE.ex (by simp (disch:=first|assumption|omega) only[go_sem,↓reduceIte,qa,reduceCtorEq,xB]; rfl) ?_
 exact⟨_,rfl,rfl⟩
def B0:Tab:=(Tab.none.addR 134 (.cons .byte .nil) fun _=>.rd true (.bool false)).addR 114 (.cons .byte .nil) fun _=>.rd true (.bool false)
theorem B0_ok:TabOk qi B0:=by
 refine xY (xY (qJ _) ?_) ?_
 ·exact fun p=>pNaN p.1
 ·exact fun p=>pNaN2 p.1
theorem B0_nan (c:UInt8):B0 134 [.int .u8 c.toNat]=some (.rd true (.bool false)):=
 (Tab.addR_ne _ _ _ _ rfl _).trans (xL _ _ (.cons .byte .nil) _ (c,()))
theorem B0_nan2 (c:UInt8):B0 114 [.int .u8 c.toNat]=some (.rd true (.bool false)):=
 xL _ _ (.cons .byte .nil) _ (c,())
theorem pLess (x y:UInt8):PCF qi 113 [.int .u8 x.toNat,.int .u8 y.toNat] (.bool (ltB x y)):=by
 refine pcf_e hmG B0_ok comp113 (by decide) (by simp) (nidL_ok rfl) ?_
 have h1:=B0_nan x
 refine vcE.ex (by simp (disch:=first|assumption|omega) only[go_sem,↓reduceIte,qa,reduceCtorEq,h1,Bool.true_or]; rfl) ?_
 refine⟨_,rfl,?_⟩
 simp only[upd_app,↓reduceIte,ltB,Int.ofNat_lt]
 rfl
def B1:Tab:=B0.addR 113 (.cons .byte (.cons .byte .nil)) fun p=>.rd true (.bool (ltB p.1 p.2.1))
theorem B1_ok:TabOk qi B1:=xY B0_ok fun p=>pLess p.1 p.2.1
theorem B1_less:Lss elB ltB B1 113:=fun x y=>xL _ _ (.cons .byte (.cons .byte .nil)) _ (x,y,())
theorem B1_nan2 (c:UInt8):B1 114 [.int .u8 c.toNat]=some (.rd true (.bool false)):=
 (Tab.addR_ne _ _ _ _ rfl _).trans (B0_nan2 c)
def srtB:SrtF qi 113 where
 fsd:=137
 fins:=126
 fhs:=127
 fo2:=140
 fmd:=139
 fma:=138
 fcp:=129
 frv:=130
 fl64:=76
 fl32:=75
 fbl:=53
 fnp:=96
 fxs:=97
 fbp:=128
 fpi:=131
 fpe:=132
 fpt:=133
 fpdq:=112
 ti:=3
 tx:=154
 hsd':=hintL [(3,6),(5,6),(6,6)]
 hins':=hintL [(4,6),(6,6)]
 hhs':=hintL [(10,6)]
 ho2':=hintL [(1,6)]
 hmd':=fun _=>0
 hma':=fun _=>0
 hcp':=fun _=>0
 hrv':=hintL [(3,6)]
 h64':=fun _=>0
 hbl':=fun _=>0
 hnp':=fun _=>0
 hxs':=hintL [(1,6),(2,6),(3,6)]
 hbp':=hintL [(10,6)]
 hpi':=hintL [(5,6),(11,6),(16,6),(17,6),(22,6),(23,6)]
 hpe':=hintL [(1,6),(3,6),(5,6),(8,6)]
 hpt':=hintL [(1,6),(3,6),(5,6),(8,6),(10,6),(13,6),(15,6),(18,6),(21,6)]
 hpdq':=hintL [(17,6)]
 hsd:=by kernel_rfl
 hins:=by kernel_rfl
 hhs:=by kernel_rfl
 ho2:=by kernel_rfl
 hmd:=by kernel_rfl
 hma:=by kernel_rfl
 hcp:=by kernel_rfl
 hrv:=by kernel_rfl
 h64:=by kernel_rfl
 hbl:=by kernel_rfl
 hnp:=by kernel_rfl
 hxs:=by kernel_rfl
 hbp:=by kernel_rfl
 hpi:=by kernel_rfl
 hpe:=by kernel_rfl
 hpt:=by kernel_rfl
 hpdq:=by kernel_rfl
end
end Go.Gi
