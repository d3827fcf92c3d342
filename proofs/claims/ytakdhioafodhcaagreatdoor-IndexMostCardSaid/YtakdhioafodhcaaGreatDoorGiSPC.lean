/- slices.Sort, as compiled, for elements that lie in one cell: partitions. -/
import Derived.Test.YtakdhioafodhcaaGreatDoorGiSPB
set_option linter.unusedVariables false
set_option linter.unusedSimpArgs false
set_option linter.unusedSectionVars false
namespace Go.Gi
open _root_.Bool renaming and_eq_true → qp
open _root_.Int renaming ofNat_lt → qT, ofNat_le → xG
open _root_.Nat renaming reduceEqDiff → qa, le_refl → qk
set_option linter.unusedSectionVars false
variable [Mx]
open Go
section
variable {α:Type} [Inhabited α] {L:El1 α} {lt:α→α→Bool} {P:Program} {T:Tab} {less:FuncId} {hint:Nat→Nat} {f:FuncId} {e:TypeId} {id:Nat} {hp0 hp:HP} {d:Array α} {v:AV}
theorem su_go (p:α→Bool) {d:Array α} {j i:Nat} (h:i≤j) (hp:p d[i]! = true):Sort.scanUp p d j (i+1)=Sort.scanUp p d j i:=by
 conv=>rhs; rw[Sort.scanUp]
 rw[if_pos (by simp[h,hp])]
theorem su_end (p:α→Bool) {d:Array α} {j i:Nat} (h:i≤j→p d[i]! = false):Sort.scanUp p d j i=i:=by
 rw[Sort.scanUp,if_neg]
 simp only[qp,decide_eq_true_eq,not_and,Bool.not_eq_true]
 exact h
theorem sd_go (p:α→Bool) {d:Array α} {j i:Nat} (h:i≤j+1) (hp:p d[j+1]! = true):Sort.scanDown p d i j=Sort.scanDown p d i (j+1):=by
 conv=>rhs; rw[Sort.scanDown]
 rw[if_pos (by simp[h,hp])]
theorem sd_end (p:α→Bool) {d:Array α} {i:Nat}:∀ {j:Nat},(i≤j→p d[j]! = false)→Sort.scanDown p d i j=j
 | 0,h=>rfl
 | j+1,h=>by
  rw[Sort.scanDown,if_neg]
  simp only[qp,decide_eq_true_eq,not_and,Bool.not_eq_true]
  exact h
theorem pt_up0 {n:Nat} {tm:Env} {a i j:Nat} (hless:Lss L lt T less) (s:Srt L e id hp0 hp d) (hv:SlA id d v) (ha:a<d.size) (hj:j<d.size) (t0:tm 0=v) (t1:tm 1=.int .i64 a) (ti:tm 10=.int .i64 i) (tj:tm 11=.int .i64 j) :
  vcE P hint T n (IC.block 0 (IC.loop (ptB0 less))) tm hp fun e' tm' hp'=>e'=.normal∧hp'=hp∧tm' 0=v∧tm' 1=.int .i64 a∧tm' 10=.int .i64 ((Sort.scanUp (fun x=>lt x d[a]!) d j i:Nat):Int)∧tm' 11=.int .i64 (j:Nat):=by
 have hsz:=hv.2
 have hfz:=L.fz
 have hid:=s.get ha
 have ia:=hv.1 a ha
 have pa:=pick_at (L:=L) ha
 refine vcE.block (vcE.loop (by intro l tm hp h; simp at h) (fun k tm' hp' => ∃ i':Nat,k=j+1 - i'∧hp'=hp∧Sort.scanUp (fun x=>lt x d[a]!) d j i'=Sort.scanUp (fun x=>lt x d[a]!) d j i∧tm' 0=v∧tm' 1=.int .i64 a∧tm' 10=.int .i64 (i':Nat)∧tm' 11=.int .i64 (j:Nat)) (j+1 - i) ⟨i,rfl,rfl,rfl,t0,t1,ti,tj⟩ ?_)
 clear t0 t1 ti tj
 rintro k tm hp' ⟨i',rfl,rfl,hs,t0,t1,ti,tj⟩
 by_cases h:i'≤j
 rotate_left
 ·refine vcE.ex (by simp (disch:=first|assumption|omega) only[go_sem,exOps.eq_2,↓reduceIte,ti,qa,tj,xG,h,decide_false]; rfl) ?_
  rw[su_end _ (fun h'=>absurd h' h)] at hs
  refine⟨rfl,rfl,?_,?_,?_,?_⟩
  all_goals simp only[upd_app,qa,↓reduceIte,t0,t1,ti,tj,← hs]
 have hx:i'<d.size:=by omega
 have ix:=hv.1 i' hx
 have px:=pick_at (L:=L) hx
 have w1:=natW (x:=(i':Int)+1) (i'+1) (by omega) (by omega)
 have hc:=hless d[i']! d[a]!
 cases hl:lt d[i']! d[a]! <;> rw[hl] at hc
 ·refine vcE.ex (by simp (disch:=first|assumption|omega) only[go_sem,exOps.eq_2,↓reduceIte,ti,qa,tj,xG,h,reduceCtorEq,t0,ix,hid,↓px,t1,ia,↓pa,frzL.eq_2,hfz,hc,nidL.eq_2]; rfl) ?_
  rw[su_end _ (fun _=>by simp[hl])] at hs
  refine⟨rfl,rfl,?_,?_,?_,?_⟩
  all_goals simp only[upd_app,qa,↓reduceIte,t0,t1,ti,tj,← hs]
 ·refine vcE.ex (by simp (disch:=first|assumption|omega) only[go_sem,exOps.eq_2,↓reduceIte,ti,qa,tj,xG,h,reduceCtorEq,t0,ix,hid,↓px,t1,ia,↓pa,frzL.eq_2,hfz,hc,nidL.eq_2,w1]; rfl) ?_
  refine⟨j+1 - (i'+1),by omega,i'+1,rfl,rfl,?_,?_,?_,?_,?_⟩
  ·rw[← hs]
   exact su_go _ h (by simp[hl])
  all_goals simp only[upd_app,qa,↓reduceIte,t0,t1,tj]
theorem pt_dn1 {n:Nat} {tm:Env} {a i j:Nat} (hless:Lss L lt T less) (s:Srt L e id hp0 hp d) (hv:SlA id d v) (ha:a<d.size) (hj:j<d.size) (hi1:1≤i) (t0:tm 0=v) (t1:tm 1=.int .i64 a) (ti:tm 10=.int .i64 i) (tj:tm 11=.int .i64 j) :
  vcE P hint T n (IC.block 2 (IC.loop (ptB1 less))) tm hp fun e' tm' hp'=>e'=.normal∧hp'=hp∧tm' 0=v∧tm' 1=.int .i64 a∧tm' 10=.int .i64 (i:Nat)∧tm' 11=.int .i64 ((Sort.scanDown (fun x => !lt x d[a]!) d i j:Nat):Int):=by
 have hsz:=hv.2
 have hfz:=L.fz
 have hid:=s.get ha
 have ia:=hv.1 a ha
 have pa:=pick_at (L:=L) ha
 refine vcE.block (vcE.loop (by intro l tm hp h; simp at h) (fun k tm' hp' => ∃ j':Nat,j'=k∧j'≤j∧hp'=hp∧Sort.scanDown (fun x => !lt x d[a]!) d i j'=Sort.scanDown (fun x => !lt x d[a]!) d i j∧tm' 0=v∧tm' 1=.int .i64 a∧tm' 10=.int .i64 (i:Nat)∧tm' 11=.int .i64 (j':Nat)) j ⟨j,rfl,qk _,rfl,rfl,t0,t1,ti,tj⟩ ?_)
 clear t0 t1 ti tj
 rintro k tm hp' ⟨j',rfl,hj1,rfl,hs,t0,t1,ti,tj⟩
 by_cases h:i≤j'
 rotate_left
 ·refine vcE.ex (by simp (disch:=first|assumption|omega) only[go_sem,exOps.eq_2,↓reduceIte,ti,qa,tj,xG,h,decide_false]; rfl) ?_
  rw[sd_end _ (fun h'=>absurd h' h)] at hs
  refine⟨rfl,rfl,?_,?_,?_,?_⟩
  all_goals simp only[upd_app,qa,↓reduceIte,t0,t1,ti,tj,← hs]
 have hx:j'<d.size:=by omega
 have ix:=hv.1 j' hx
 have px:=pick_at (L:=L) hx
 have w1:=natW (x:=(j':Int) - 1) (j' - 1) (by omega) (by omega)
 have hc:=hless d[j']! d[a]!
 cases hl:lt d[j']! d[a]! <;> rw[hl] at hc
 ·refine vcE.ex (by simp (disch:=first|assumption|omega) only[go_sem,exOps.eq_2,↓reduceIte,ti,qa,tj,xG,h,reduceCtorEq,t0,ix,hid,↓px,t1,ia,↓pa,frzL.eq_2,hfz,hc,nidL.eq_2,w1]; rfl) ?_
  obtain⟨j',rfl⟩:∃ j2,j'=j2+1:=⟨j' - 1,by omega⟩
  refine⟨j',by omega,j',rfl,by omega,rfl,?_,?_,?_,?_,?_⟩
  ·rw[← hs]
   exact sd_go _ h (by simp[hl])
  all_goals simp only[upd_app,qa,↓reduceIte,t0,t1,ti,Nat.add_sub_cancel]
 ·refine vcE.ex (by simp (disch:=first|assumption|omega) only[go_sem,exOps.eq_2,↓reduceIte,ti,qa,tj,xG,h,reduceCtorEq,t0,ix,hid,↓px,t1,ia,↓pa,frzL.eq_2,hfz,hc,nidL.eq_2]; rfl) ?_
  rw[sd_end _ (fun _=>by simp[hl])] at hs
  refine⟨rfl,rfl,?_,?_,?_,?_⟩
  all_goals simp only[upd_app,qa,↓reduceIte,t0,t1,ti,tj,← hs]
theorem pt_up2 {n:Nat} {tm:Env} {a i j:Nat} (hless:Lss L lt T less) (s:Srt L e id hp0 hp d) (hv:SlA id d v) (ha:a<d.size) (hj:j<d.size) (t0:tm 0=v) (t1:tm 1=.int .i64 a) (ti:tm 10=.int .i64 i) (tj:tm 11=.int .i64 j) :
  vcE P hint T n (IC.block 6 (IC.loop (ptB2 less))) tm hp fun e' tm' hp'=>e'=.normal∧hp'=hp∧tm' 0=v∧tm' 1=.int .i64 a∧tm' 10=.int .i64 ((Sort.scanUp (fun x=>lt x d[a]!) d j i:Nat):Int)∧tm' 11=.int .i64 (j:Nat):=by
 have hsz:=hv.2
 have hfz:=L.fz
 have hid:=s.get ha
 have ia:=hv.1 a ha
 have pa:=pick_at (L:=L) ha
 refine vcE.block (vcE.loop (by intro l tm hp h; simp at h) (fun k tm' hp' => ∃ i':Nat,k=j+1 - i'∧hp'=hp∧Sort.scanUp (fun x=>lt x d[a]!) d j i'=Sort.scanUp (fun x=>lt x d[a]!) d j i∧tm' 0=v∧tm' 1=.int .i64 a∧tm' 10=.int .i64 (i':Nat)∧tm' 11=.int .i64 (j:Nat)) (j+1 - i) ⟨i,rfl,rfl,rfl,t0,t1,ti,tj⟩ ?_)
 clear t0 t1 ti tj
 rintro k tm hp' ⟨i',rfl,rfl,hs,t0,t1,ti,tj⟩
 by_cases h:i'≤j
 rotate_left
 ·refine vcE.ex (by simp (disch:=first|assumption|omega) only[go_sem,exOps.eq_2,↓reduceIte,ti,qa,tj,xG,h,decide_false]; rfl) ?_
  rw[su_end _ (fun h'=>absurd h' h)] at hs
  refine⟨rfl,rfl,?_,?_,?_,?_⟩
  all_goals simp only[upd_app,qa,↓reduceIte,t0,t1,ti,tj,← hs]
 have hx:i'<d.size:=by omega
 have ix:=hv.1 i' hx
 have px:=pick_at (L:=L) hx
 have w1:=natW (x:=(i':Int)+1) (i'+1) (by omega) (by omega)
 have hc:=hless d[i']! d[a]!
 cases hl:lt d[i']! d[a]! <;> rw[hl] at hc
 ·refine vcE.ex (by simp (disch:=first|assumption|omega) only[go_sem,exOps.eq_2,↓reduceIte,ti,qa,tj,xG,h,reduceCtorEq,t0,ix,hid,↓px,t1,ia,↓pa,frzL.eq_2,hfz,hc,nidL.eq_2]; rfl) ?_
  rw[su_end _ (fun _=>by simp[hl])] at hs
  refine⟨rfl,rfl,?_,?_,?_,?_⟩
  all_goals simp only[upd_app,qa,↓reduceIte,t0,t1,ti,tj,← hs]
 ·refine vcE.ex (by simp (disch:=first|assumption|omega) only[go_sem,exOps.eq_2,↓reduceIte,ti,qa,tj,xG,h,reduceCtorEq,t0,ix,hid,↓px,t1,ia,↓pa,frzL.eq_2,hfz,hc,nidL.eq_2,w1]; rfl) ?_
  refine⟨j+1 - (i'+1),by omega,i'+1,rfl,rfl,?_,?_,?_,?_,?_⟩
  ·rw[← hs]
   exact su_go _ h (by simp[hl])
  all_goals simp only[upd_app,qa,↓reduceIte,t0,t1,tj]
theorem pt_dn3 {n:Nat} {tm:Env} {a i j:Nat} (hless:Lss L lt T less) (s:Srt L e id hp0 hp d) (hv:SlA id d v) (ha:a<d.size) (hj:j<d.size) (hi1:1≤i) (t0:tm 0=v) (t1:tm 1=.int .i64 a) (ti:tm 10=.int .i64 i) (tj:tm 11=.int .i64 j) :
  vcE P hint T n (IC.block 8 (IC.loop (ptB3 less))) tm hp fun e' tm' hp'=>e'=.normal∧hp'=hp∧tm' 0=v∧tm' 1=.int .i64 a∧tm' 10=.int .i64 (i:Nat)∧tm' 11=.int .i64 ((Sort.scanDown (fun x => !lt x d[a]!) d i j:Nat):Int):=by
 have hsz:=hv.2
 have hfz:=L.fz
 have hid:=s.get ha
 have ia:=hv.1 a ha
 have pa:=pick_at (L:=L) ha
 refine vcE.block (vcE.loop (by intro l tm hp h; simp at h) (fun k tm' hp' => ∃ j':Nat,j'=k∧j'≤j∧hp'=hp∧Sort.scanDown (fun x => !lt x d[a]!) d i j'=Sort.scanDown (fun x => !lt x d[a]!) d i j∧tm' 0=v∧tm' 1=.int .i64 a∧tm' 10=.int .i64 (i:Nat)∧tm' 11=.int .i64 (j':Nat)) j ⟨j,rfl,qk _,rfl,rfl,t0,t1,ti,tj⟩ ?_)
 clear t0 t1 ti tj
 rintro k tm hp' ⟨j',rfl,hj1,rfl,hs,t0,t1,ti,tj⟩
 by_cases h:i≤j'
 rotate_left
 ·refine vcE.ex (by simp (disch:=first|assumption|omega) only[go_sem,exOps.eq_2,↓reduceIte,ti,qa,tj,xG,h,decide_false]; rfl) ?_
  rw[sd_end _ (fun h'=>absurd h' h)] at hs
  refine⟨rfl,rfl,?_,?_,?_,?_⟩
  all_goals simp only[upd_app,qa,↓reduceIte,t0,t1,ti,tj,← hs]
 have hx:j'<d.size:=by omega
 have ix:=hv.1 j' hx
 have px:=pick_at (L:=L) hx
 have w1:=natW (x:=(j':Int) - 1) (j' - 1) (by omega) (by omega)
 have hc:=hless d[j']! d[a]!
 cases hl:lt d[j']! d[a]! <;> rw[hl] at hc
 ·refine vcE.ex (by simp (disch:=first|assumption|omega) only[go_sem,exOps.eq_2,↓reduceIte,ti,qa,tj,xG,h,reduceCtorEq,t0,ix,hid,↓px,t1,ia,↓pa,frzL.eq_2,hfz,hc,nidL.eq_2,w1]; rfl) ?_
  obtain⟨j',rfl⟩:∃ j2,j'=j2+1:=⟨j' - 1,by omega⟩
  refine⟨j',by omega,j',rfl,by omega,rfl,?_,?_,?_,?_,?_⟩
  ·rw[← hs]
   exact sd_go _ h (by simp[hl])
  all_goals simp only[upd_app,qa,↓reduceIte,t0,t1,ti,Nat.add_sub_cancel]
 ·refine vcE.ex (by simp (disch:=first|assumption|omega) only[go_sem,exOps.eq_2,↓reduceIte,ti,qa,tj,xG,h,reduceCtorEq,t0,ix,hid,↓px,t1,ia,↓pa,frzL.eq_2,hfz,hc,nidL.eq_2]; rfl) ?_
  rw[sd_end _ (fun _=>by simp[hl])] at hs
  refine⟨rfl,rfl,?_,?_,?_,?_⟩
  all_goals simp only[upd_app,qa,↓reduceIte,t0,t1,ti,tj,← hs]
theorem pe_up0 {n:Nat} {tm:Env} {a i j:Nat} (hless:Lss L lt T less) (s:Srt L e id hp0 hp d) (hv:SlA id d v) (ha:a<d.size) (hj:j<d.size) (t0:tm 0=v) (t1:tm 1=.int .i64 a) (ti:tm 9=.int .i64 i) (tj:tm 10=.int .i64 j) :
  vcE P hint T n (IC.block 2 (IC.loop (peB0 less))) tm hp fun e' tm' hp'=>e'=.normal∧hp'=hp∧tm' 0=v∧tm' 1=.int .i64 a∧tm' 9=.int .i64 ((Sort.scanUp (fun x => !lt d[a]! x) d j i:Nat):Int)∧tm' 10=.int .i64 (j:Nat):=by
 have hsz:=hv.2
 have hfz:=L.fz
 have hid:=s.get ha
 have ia:=hv.1 a ha
 have pa:=pick_at (L:=L) ha
 refine vcE.block (vcE.loop (by intro l tm hp h; simp at h) (fun k tm' hp' => ∃ i':Nat,k=j+1 - i'∧hp'=hp∧Sort.scanUp (fun x => !lt d[a]! x) d j i'=Sort.scanUp (fun x => !lt d[a]! x) d j i∧tm' 0=v∧tm' 1=.int .i64 a∧tm' 9=.int .i64 (i':Nat)∧tm' 10=.int .i64 (j:Nat)) (j+1 - i) ⟨i,rfl,rfl,rfl,t0,t1,ti,tj⟩ ?_)
 clear t0 t1 ti tj
 rintro k tm hp' ⟨i',rfl,rfl,hs,t0,t1,ti,tj⟩
 by_cases h:i'≤j
 rotate_left
 ·refine vcE.ex (by simp (disch:=first|assumption|omega) only[go_sem,exOps.eq_2,↓reduceIte,ti,qa,tj,xG,h,decide_false]; rfl) ?_
  rw[su_end _ (fun h'=>absurd h' h)] at hs
  refine⟨rfl,rfl,?_,?_,?_,?_⟩
  all_goals simp only[upd_app,qa,↓reduceIte,t0,t1,ti,tj,← hs]
 have hx:i'<d.size:=by omega
 have ix:=hv.1 i' hx
 have px:=pick_at (L:=L) hx
 have w1:=natW (x:=(i':Int)+1) (i'+1) (by omega) (by omega)
 have hc:=hless d[a]! d[i']!
 cases hl:lt d[a]! d[i']! <;> rw[hl] at hc
 ·refine vcE.ex (by simp (disch:=first|assumption|omega) only[go_sem,exOps.eq_2,↓reduceIte,ti,qa,tj,xG,h,reduceCtorEq,t0,t1,ia,hid,↓pa,ix,↓px,frzL.eq_2,hfz,hc,nidL.eq_2,w1]; rfl) ?_
  refine⟨j+1 - (i'+1),by omega,i'+1,rfl,rfl,?_,?_,?_,?_,?_⟩
  ·rw[← hs]
   exact su_go _ h (by simp[hl])
  all_goals simp only[upd_app,qa,↓reduceIte,t0,t1,tj]
 ·refine vcE.ex (by simp (disch:=first|assumption|omega) only[go_sem,exOps.eq_2,↓reduceIte,ti,qa,tj,xG,h,reduceCtorEq,t0,t1,ia,hid,↓pa,ix,↓px,frzL.eq_2,hfz,hc,nidL.eq_2]; rfl) ?_
  rw[su_end _ (fun _=>by simp[hl])] at hs
  refine⟨rfl,rfl,?_,?_,?_,?_⟩
  all_goals simp only[upd_app,qa,↓reduceIte,t0,t1,ti,tj,← hs]
theorem pe_dn1 {n:Nat} {tm:Env} {a i j:Nat} (hless:Lss L lt T less) (s:Srt L e id hp0 hp d) (hv:SlA id d v) (ha:a<d.size) (hj:j<d.size) (hi1:1≤i) (t0:tm 0=v) (t1:tm 1=.int .i64 a) (ti:tm 9=.int .i64 i) (tj:tm 10=.int .i64 j) :
  vcE P hint T n (IC.block 4 (IC.loop (peB1 less))) tm hp fun e' tm' hp'=>e'=.normal∧hp'=hp∧tm' 0=v∧tm' 1=.int .i64 a∧tm' 9=.int .i64 (i:Nat)∧tm' 10=.int .i64 ((Sort.scanDown (fun x=>lt d[a]! x) d i j:Nat):Int):=by
 have hsz:=hv.2
 have hfz:=L.fz
 have hid:=s.get ha
 have ia:=hv.1 a ha
 have pa:=pick_at (L:=L) ha
 refine vcE.block (vcE.loop (by intro l tm hp h; simp at h) (fun k tm' hp' => ∃ j':Nat,j'=k∧j'≤j∧hp'=hp∧Sort.scanDown (fun x=>lt d[a]! x) d i j'=Sort.scanDown (fun x=>lt d[a]! x) d i j∧tm' 0=v∧tm' 1=.int .i64 a∧tm' 9=.int .i64 (i:Nat)∧tm' 10=.int .i64 (j':Nat)) j ⟨j,rfl,qk _,rfl,rfl,t0,t1,ti,tj⟩ ?_)
 clear t0 t1 ti tj
 rintro k tm hp' ⟨j',rfl,hj1,rfl,hs,t0,t1,ti,tj⟩
 by_cases h:i≤j'
 rotate_left
 ·refine vcE.ex (by simp (disch:=first|assumption|omega) only[go_sem,exOps.eq_2,↓reduceIte,ti,qa,tj,xG,h,decide_false]; rfl) ?_
  rw[sd_end _ (fun h'=>absurd h' h)] at hs
  refine⟨rfl,rfl,?_,?_,?_,?_⟩
  all_goals simp only[upd_app,qa,↓reduceIte,t0,t1,ti,tj,← hs]
 have hx:j'<d.size:=by omega
 have ix:=hv.1 j' hx
 have px:=pick_at (L:=L) hx
 have w1:=natW (x:=(j':Int) - 1) (j' - 1) (by omega) (by omega)
 have hc:=hless d[a]! d[j']!
 cases hl:lt d[a]! d[j']! <;> rw[hl] at hc
 ·refine vcE.ex (by simp (disch:=first|assumption|omega) only[go_sem,exOps.eq_2,↓reduceIte,ti,qa,tj,xG,h,reduceCtorEq,t0,t1,ia,hid,↓pa,ix,↓px,frzL.eq_2,hfz,hc,nidL.eq_2]; rfl) ?_
  rw[sd_end _ (fun _=>by simp[hl])] at hs
  refine⟨rfl,rfl,?_,?_,?_,?_⟩
  all_goals simp only[upd_app,qa,↓reduceIte,t0,t1,ti,tj,← hs]
 ·refine vcE.ex (by simp (disch:=first|assumption|omega) only[go_sem,exOps.eq_2,↓reduceIte,ti,qa,tj,xG,h,reduceCtorEq,t0,t1,ia,hid,↓pa,ix,↓px,frzL.eq_2,hfz,hc,nidL.eq_2,w1]; rfl) ?_
  obtain⟨j',rfl⟩:∃ j2,j'=j2+1:=⟨j' - 1,by omega⟩
  refine⟨j',by omega,j',rfl,by omega,rfl,?_,?_,?_,?_,?_⟩
  ·rw[← hs]
   exact sd_go _ h (by simp[hl])
  all_goals simp only[upd_app,qa,↓reduceIte,t0,t1,ti,Nat.add_sub_cancel]
theorem pt_loop {n:Nat} {tm:Env} {a i j:Nat} (hless:Lss L lt T less) (s:Srt L e id hp0 hp d) (hv:SlA id d v) (hai:a<i) (ha:a<d.size) (hj:j<d.size) (t0:tm 0=v) (t1:tm 1=.int .i64 a) (ti:tm 10=.int .i64 i) (tj:tm 11=.int .i64 j) :
  vcE P hint T n (IC.block 4 (IC.loop (ptB4 less))) tm hp fun e' tm' hp'=>e'=.normal∧Srt L e id hp0 hp' (Sort.partLoop lt a i j d).2∧(Sort.partLoop lt a i j d).2.size=d.size∧(Sort.partLoop lt a i j d).1<d.size∧tm' 0=v∧tm' 1=.int .i64 a∧tm' 11=.int .i64 ((Sort.partLoop lt a i j d).1:Nat):=by
 have hsz:=hv.2
 refine vcE.block (vcE.loop (by intro l tm hp h; simp at h) (fun k tm' hp' => ∃ (i' j':Nat) (d':Array α),k=j'+1 - i'∧a<i'∧j'<d.size∧d'.size=d.size∧Srt L e id hp0 hp' d'∧Sort.partLoop lt a i' j' d'=Sort.partLoop lt a i j d∧tm' 0=v∧tm' 1=.int .i64 a∧tm' 10=.int .i64 i'∧tm' 11=.int .i64 j') (j+1 - i) ⟨i,j,d,rfl,hai,hj,rfl,s,rfl,t0,t1,ti,tj⟩ ?_)
 clear t0 t1 ti tj s
 rintro k tm hp ⟨i1,j1,d1,rfl,hai1,hj1,hd1,s,hs,t0,t1,ti,tj⟩
 have hv1:=hv.of hd1
 refine vcE.block (vcE.then _ (pt_up2 hless s hv1 (by omega) (by omega) t0 t1 ti tj) ?_)
 clear t0 t1 ti tj
 rintro e' tm hp' ⟨rfl,rfl,t0,t1,ti,tj⟩
 have g1:=Sort.scanUp_ge (fun x=>lt x d1[a]!) d1 j1 i1
 rw[Sort.partLoop_eq] at hs
 generalize hi2:Sort.scanUp (fun x=>lt x d1[a]!) d1 j1 i1=i2 at *
 refine vcE.then _ (pt_dn3 hless s hv1 (by omega) (by omega) (by omega) t0 t1 ti tj) ?_
 clear t0 t1 ti tj
 rintro e' tm hp' ⟨rfl,rfl,t0,t1,ti,tj⟩
 have g2:=Sort.scanDown_le (fun x => !lt x d1[a]!) d1 i2 j1
 generalize hj2:Sort.scanDown (fun x => !lt x d1[a]!) d1 i2 j1=j2 at *
 by_cases h:i2 > j2
 ·rw[if_pos h] at hs
  refine vcE.ex (by simp (disch:=first|assumption|omega) only[go_sem,↓reduceIte,ti,qa,tj,gt_iff_lt,qT,h]; rfl) ?_
  rw[← hs]
  refine⟨rfl,s,hd1,by omega,?_,?_,?_⟩
  all_goals simp only[upd_app,qa,↓reduceIte,t0,t1,tj]
 ·rw[if_neg h] at hs
  have h1:i2<d1.size:=by omega
  have h2:j2<d1.size:=by omega
  have x1:=s.get h1
  have y1:=hv1.1 i2 h1
  have y2:=hv1.1 j2 h2
  have p1:=pick_at (L:=L) h1
  have p2:=pick_at (L:=L) h2
  obtain⟨z1,z2,hst1,hst2,s3⟩:=s.swap h1 h2
  have w2:=natW (x:=(i2:Int)+1) (i2+1) (by omega) (by omega)
  have w3:=natW (x:=(j2:Int) - 1) (j2 - 1) (by omega) (by omega)
  have h':¬ (j2:Int)<(i2:Int):=by omega
  refine vcE.ex (by simp (disch:=first|assumption|omega) only[go_sem,↓reduceIte,ti,qa,tj,h',decide_false,exOps.eq_2,reduceCtorEq,t0,y2,x1,↓p2,y1,↓p1,↓hst1,↓hst2,w2,w3]; rfl) ?_
  refine⟨j2 - 1+1 - (i2+1),by omega,i2+1,j2 - 1,_,rfl,by omega,by omega,by rw[Sort.swp_size]; exact hd1,s3,hs,?_,?_,?_,?_⟩
  all_goals simp only[upd_app,qa,↓reduceIte,t0,t1]
theorem partition_unf (a b p:Nat):Sort.partition lt d a b p=if Sort.scanUp (fun x=>lt x (Sort.swp d a p)[a]!) (Sort.swp d a p) (b - 1) (a+1) > Sort.scanDown (fun x => !lt x (Sort.swp d a p)[a]!) (Sort.swp d a p) (Sort.scanUp (fun x=>lt x (Sort.swp d a p)[a]!) (Sort.swp d a p) (b - 1) (a+1)) (b - 1) then (Sort.scanDown (fun x => !lt x (Sort.swp d a p)[a]!) (Sort.swp d a p) (Sort.scanUp (fun x=>lt x (Sort.swp d a p)[a]!) (Sort.swp d a p) (b - 1) (a+1)) (b - 1),true,Sort.swp (Sort.swp d a p) (Sort.scanDown (fun x => !lt x (Sort.swp d a p)[a]!) (Sort.swp d a p) (Sort.scanUp (fun x=>lt x (Sort.swp d a p)[a]!) (Sort.swp d a p) (b - 1) (a+1)) (b - 1)) a) else ((Sort.partLoop lt a (Sort.scanUp (fun x=>lt x (Sort.swp d a p)[a]!) (Sort.swp d a p) (b - 1) (a+1)+1) (Sort.scanDown (fun x => !lt x (Sort.swp d a p)[a]!) (Sort.swp d a p) (Sort.scanUp (fun x=>lt x (Sort.swp d a p)[a]!) (Sort.swp d a p) (b - 1) (a+1)) (b - 1) - 1) (Sort.swp (Sort.swp d a p) (Sort.scanUp (fun x=>lt x (Sort.swp d a p)[a]!) (Sort.swp d a p) (b - 1) (a+1)) (Sort.scanDown (fun x => !lt x (Sort.swp d a p)[a]!) (Sort.swp d a p) (Sort.scanUp (fun x=>lt x (Sort.swp d a p)[a]!) (Sort.swp d a p) (b - 1) (a+1)) (b - 1)))).1,false,Sort.swp (Sort.partLoop lt a (Sort.scanUp (fun x=>lt x (Sort.swp d a p)[a]!) (Sort.swp d a p) (b - 1) (a+1)+1) (Sort.scanDown (fun x => !lt x (Sort.swp d a p)[a]!) (Sort.swp d a p) (Sort.scanUp (fun x=>lt x (Sort.swp d a p)[a]!) (Sort.swp d a p) (b - 1) (a+1)) (b - 1) - 1) (Sort.swp (Sort.swp d a p) (Sort.scanUp (fun x=>lt x (Sort.swp d a p)[a]!) (Sort.swp d a p) (b - 1) (a+1)) (Sort.scanDown (fun x => !lt x (Sort.swp d a p)[a]!) (Sort.swp d a p) (Sort.scanUp (fun x=>lt x (Sort.swp d a p)[a]!) (Sort.swp d a p) (b - 1) (a+1)) (b - 1)))).2 (Sort.partLoop lt a (Sort.scanUp (fun x=>lt x (Sort.swp d a p)[a]!) (Sort.swp d a p) (b - 1) (a+1)+1) (Sort.scanDown (fun x => !lt x (Sort.swp d a p)[a]!) (Sort.swp d a p) (Sort.scanUp (fun x=>lt x (Sort.swp d a p)[a]!) (Sort.swp d a p) (b - 1) (a+1)) (b - 1) - 1) (Sort.swp (Sort.swp d a p) (Sort.scanUp (fun x=>lt x (Sort.swp d a p)[a]!) (Sort.swp d a p) (b - 1) (a+1)) (Sort.scanDown (fun x => !lt x (Sort.swp d a p)[a]!) (Sort.swp d a p) (Sort.scanUp (fun x=>lt x (Sort.swp d a p)[a]!) (Sort.swp d a p) (b - 1) (a+1)) (b - 1)))).1 a):=rfl
theorem pt_calls (hm:P.follows .mixedOrders=true) (hT:TabOk P T) (hless:Lss L lt T less) (hf:compF P hint f=some ⟨ptC less,ptN,[.t 8,.t 9]⟩) (s:Srt L e id hp0 hp d) (hv:SlA id d v) {a b p:Nat} (hab:a<b) (hb:b≤d.size) (hpv:p<d.size) :
  ACalls P f [v,.int .i64 a,.int .i64 b,.int .i64 p] hp fun r hp'=>r=.tup [.int .i64 ((Sort.partition lt d a b p).1:Nat),.bool (Sort.partition lt d a b p).2.1]∧Srt L e id hp0 hp' (Sort.partition lt d a b p).2.2∧(Sort.partition lt d a b p).2.2.size=d.size:=by
 refine calls_e hm hT hf (by rfl) (by simp[ptN]) ?_
 have hsz:=hv.2
 rw[partition_unf]
 have h1:a<d.size:=by omega
 have x1:=s.get h1
 have y1:=hv.1 a h1
 have y2:=hv.1 p hpv
 have p1:=pick_at (L:=L) h1
 have p2:=pick_at (L:=L) hpv
 obtain⟨z1,z2,hst1,hst2,s3⟩:=s.swap h1 hpv
 have w2:=natW (x:=(a:Int)+1) (a+1) (by omega) (by omega)
 have w3:=natW (x:=(b:Int) - 1) (b - 1) (by omega) (by omega)
 refine vcE.s1 (k:=vcE.step (by simp (disch:=first|assumption|omega) only[go_sem,↓reduceIte,qa,reduceCtorEq,y1,y2,x1,↓p1,↓p2,↓hst1,↓hst2]; rfl) (vcE.step (by simp (disch:=first|assumption|omega) only[go_sem,↓reduceIte,qa,w2,w3]; rfl) ?_))
 have hd1:(Sort.swp d a p).size=d.size:=Sort.swp_size _ _ _
 generalize Sort.swp d a p=d1 at *
 have hv1:=hv.of hd1
 clear p1 p2 hst1 hst2 x1 s
 refine vcE.then _ (pt_up0 hless s3 hv1 (i:=a+1) (j:=b - 1) (a:=a) (by omega) (by omega) ?_ ?_ ?_ ?_) ?_
 ·simp only[upd_app,qa,↓reduceIte]
  rfl
 ·simp only[upd_app,qa,↓reduceIte]
  rfl
 ·simp only[upd_app,qa,↓reduceIte]
 ·simp only[upd_app,↓reduceIte]
 rintro e' tm hp' ⟨rfl,rfl,t0,t1,ti,tj⟩
 have g1:=Sort.scanUp_ge (fun x=>lt x d1[a]!) d1 (b - 1) (a+1)
 generalize hi2:Sort.scanUp (fun x=>lt x d1[a]!) d1 (b - 1) (a+1)=i2 at *
 refine vcE.then _ (pt_dn1 hless s3 hv1 (by omega) (by omega) (by omega) t0 t1 ti tj) ?_
 clear t0 t1 ti tj
 rintro e' tm hp' ⟨rfl,rfl,t0,t1,ti,tj⟩
 have g2:=Sort.scanDown_le (fun x => !lt x d1[a]!) d1 i2 (b - 1)
 generalize hj2:Sort.scanDown (fun x => !lt x d1[a]!) d1 i2 (b - 1)=j2 at *
 have h2:j2<d1.size:=by omega
 have ha1:a<d1.size:=by omega
 have x1:=s3.get h2
 have y3:=hv1.1 j2 h2
 have p1:=pick_at (L:=L) h2
 by_cases h:i2 > j2
 ·rw[if_pos h]
  have p2:=pick_at (L:=L) ha1
  obtain⟨u1,u2,hst1,hst2,s4⟩:=s3.swap h2 ha1
  refine vcE.ex (by simp (disch:=first|assumption|omega) only[go_sem,↓reduceIte,ti,qa,tj,gt_iff_lt,qT,h,exOps.eq_2,reduceCtorEq,t0,t1,y1,x1,↓p2,y3,↓p1,↓hst1,↓hst2]; rfl) ?_
  refine⟨_,rfl,rfl,s4,?_⟩
  simp only[Sort.swp_size,hd1]
 rw[if_neg h]
 have hi3:i2<d1.size:=by omega
 have y4:=hv1.1 i2 hi3
 have p2:=pick_at (L:=L) hi3
 obtain⟨u1,u2,hst1,hst2,s4⟩:=s3.swap hi3 h2
 have h':¬ (j2:Int)<(i2:Int):=by omega
 have w4:=natW (x:=(i2:Int)+1) (i2+1) (by omega) (by omega)
 have w5:=natW (x:=(j2:Int) - 1) (j2 - 1) (by omega) (by omega)
 refine vcE.step (by simp (disch:=first|assumption|omega) only[go_sem,↓reduceIte,ti,qa,tj,h',decide_false]; rfl) (vcE.step (by simp (disch:=first|assumption|omega) only[go_sem,exOps.eq_2,↓reduceIte,reduceCtorEq,t0,qa,ti,tj,y3,x1,↓p1,y4,↓p2,↓hst1,↓hst2]; rfl) (vcE.step (by simp (disch:=first|assumption|omega) only[go_sem,↓reduceIte,qa,ti,w4]; rfl) (vcE.step (by simp (disch:=first|assumption|omega) only[go_sem,↓reduceIte,qa,tj,w5]; rfl) ?_)))
 have hd2:(Sort.swp d1 i2 j2).size=d1.size:=Sort.swp_size _ _ _
 generalize Sort.swp d1 i2 j2=d2 at *
 refine vcE.then _ (pt_loop hless s4 (hv1.of hd2) (i:=i2+1) (j:=j2 - 1) (a:=a) (by omega) (by omega) (by omega) ?_ ?_ ?_ ?_) ?_
 ·simp only[upd_app,qa,↓reduceIte,t0]
 ·simp only[upd_app,qa,↓reduceIte,t1]
 ·simp only[upd_app,qa,↓reduceIte]
 ·simp only[upd_app,↓reduceIte]
 clear t0 t1 ti tj
 rintro e' tm hp' ⟨rfl,s5,hd3,hlt,t0,t1,tj⟩
 generalize Sort.partLoop lt a (i2+1) (j2 - 1) d2=r at *
 obtain⟨jj,d3⟩:=r
 simp only at *
 have hj3:jj<d3.size:=by omega
 have ha3:a<d3.size:=by omega
 have y5:=hv.1 jj (by omega)
 have q1:=pick_at (L:=L) hj3
 have q2:=pick_at (L:=L) ha3
 have x3:=s5.get hj3
 obtain⟨v1,v2,hst3,hst4,s6⟩:=s5.swap hj3 ha3
 refine vcE.ex (by simp (disch:=first|assumption|omega) only[go_sem,exOps.eq_2,↓reduceIte,t0,qa,tj,reduceCtorEq,t1,y1,x3,↓q2,y5,↓q1,↓hst3,↓hst4]; rfl) ?_
 refine⟨_,rfl,rfl,s6,?_⟩
 rw[Sort.swp_size]
 omega
theorem pe_loop {n:Nat} {tm:Env} {a i j:Nat} (hless:Lss L lt T less) (s:Srt L e id hp0 hp d) (hv:SlA id d v) (hai:a<i) (hi:i≤d.size) (ha:a<d.size) (hj:j<d.size) (t0:tm 0=v) (t1:tm 1=.int .i64 a) (ti:tm 9=.int .i64 i) (tj:tm 10=.int .i64 j) :
  vcE P hint T n (IC.block 0 (IC.loop (peB2 less))) tm hp fun e' tm' hp'=>e'=.normal∧Srt L e id hp0 hp' (Sort.partEqLoop lt a i j d).2∧(Sort.partEqLoop lt a i j d).2.size=d.size∧tm' 9=.int .i64 ((Sort.partEqLoop lt a i j d).1:Nat):=by
 have hsz:=hv.2
 refine vcE.block (vcE.loop (by intro l tm hp h; simp at h) (fun k tm' hp' => ∃ (i' j':Nat) (d':Array α),k=j'+1 - i'∧a<i'∧j'<d.size∧d'.size=d.size∧Srt L e id hp0 hp' d'∧Sort.partEqLoop lt a i' j' d'=Sort.partEqLoop lt a i j d∧tm' 0=v∧tm' 1=.int .i64 a∧tm' 9=.int .i64 i'∧tm' 10=.int .i64 j') (j+1 - i) ⟨i,j,d,rfl,hai,hj,rfl,s,rfl,t0,t1,ti,tj⟩ ?_)
 clear t0 t1 ti tj s
 rintro k tm hp ⟨i1,j1,d1,rfl,hai1,hj1,hd1,s,hs,t0,t1,ti,tj⟩
 have hv1:=hv.of hd1
 refine vcE.block (vcE.then _ (pe_up0 hless s hv1 (by omega) (by omega) t0 t1 ti tj) ?_)
 clear t0 t1 ti tj
 rintro e' tm hp' ⟨rfl,rfl,t0,t1,ti,tj⟩
 have g1:=Sort.scanUp_ge (fun x => !lt d1[a]! x) d1 j1 i1
 rw[Sort.partEqLoop_eq] at hs
 generalize hi2:Sort.scanUp (fun x => !lt d1[a]! x) d1 j1 i1=i2 at *
 refine vcE.then _ (pe_dn1 hless s hv1 (by omega) (by omega) (by omega) t0 t1 ti tj) ?_
 clear t0 t1 ti tj
 rintro e' tm hp' ⟨rfl,rfl,t0,t1,ti,tj⟩
 have g2:=Sort.scanDown_le (fun x=>lt d1[a]! x) d1 i2 j1
 generalize hj2:Sort.scanDown (fun x=>lt d1[a]! x) d1 i2 j1=j2 at *
 by_cases h:i2 > j2
 ·rw[if_pos h] at hs
  refine vcE.ex (by simp (disch:=first|assumption|omega) only[go_sem,↓reduceIte,ti,qa,tj,gt_iff_lt,qT,h]; rfl) ?_
  rw[← hs]
  refine⟨rfl,s,hd1,?_⟩
  all_goals simp only[upd_app,qa,↓reduceIte,ti]
 ·rw[if_neg h] at hs
  have h1:i2<d1.size:=by omega
  have h2:j2<d1.size:=by omega
  have x1:=s.get h1
  have y1:=hv1.1 i2 h1
  have y2:=hv1.1 j2 h2
  have p1:=pick_at (L:=L) h1
  have p2:=pick_at (L:=L) h2
  obtain⟨z1,z2,hst1,hst2,s3⟩:=s.swap h1 h2
  have w2:=natW (x:=(i2:Int)+1) (i2+1) (by omega) (by omega)
  have w3:=natW (x:=(j2:Int) - 1) (j2 - 1) (by omega) (by omega)
  have h':¬ (j2:Int)<(i2:Int):=by omega
  refine vcE.ex (by simp (disch:=first|assumption|omega) only[go_sem,↓reduceIte,ti,qa,tj,h',decide_false,exOps.eq_2,reduceCtorEq,t0,y2,x1,↓p2,y1,↓p1,↓hst1,↓hst2,w2,w3]; rfl) ?_
  refine⟨j2 - 1+1 - (i2+1),by omega,i2+1,j2 - 1,_,rfl,by omega,by omega,by rw[Sort.swp_size]; exact hd1,s3,hs,?_,?_,?_,?_⟩
  all_goals simp only[upd_app,qa,↓reduceIte,t0,t1]
theorem pe_calls (hm:P.follows .mixedOrders=true) (hT:TabOk P T) (hless:Lss L lt T less) (hf:compF P hint f=some ⟨peC less,peN,[.t 8]⟩) (s:Srt L e id hp0 hp d) (hv:SlA id d v) {a b p:Nat} (hab:a<b) (hb:b≤d.size) (hpv:p<d.size) :
  ACalls P f [v,.int .i64 a,.int .i64 b,.int .i64 p] hp fun r hp'=>r=.int .i64 ((Sort.partitionEqual lt d a b p).1:Nat)∧Srt L e id hp0 hp' (Sort.partitionEqual lt d a b p).2∧(Sort.partitionEqual lt d a b p).2.size=d.size:=by
 refine calls_e hm hT hf (by rfl) (by simp[peN]) ?_
 have hsz:=hv.2
 unfold Sort.partitionEqual
 have h1:a<d.size:=by omega
 have x1:=s.get h1
 have y1:=hv.1 a h1
 have y2:=hv.1 p hpv
 have p1:=pick_at (L:=L) h1
 have p2:=pick_at (L:=L) hpv
 obtain⟨z1,z2,hst1,hst2,s3⟩:=s.swap h1 hpv
 have w2:=natW (x:=(a:Int)+1) (a+1) (by omega) (by omega)
 have w3:=natW (x:=(b:Int) - 1) (b - 1) (by omega) (by omega)
 refine vcE.s1 (k:=vcE.step (by simp (disch:=first|assumption|omega) only[go_sem,↓reduceIte,qa,reduceCtorEq,y1,y2,x1,↓p1,↓p2,↓hst1,↓hst2]; rfl) (vcE.step (by simp (disch:=first|assumption|omega) only[go_sem,↓reduceIte,qa,w2,w3]; rfl) ?_))
 have hd1:(Sort.swp d a p).size=d.size:=Sort.swp_size _ _ _
 generalize Sort.swp d a p=d1 at *
 have hv1:=hv.of hd1
 clear p1 p2 hst1 hst2 x1 s
 refine vcE.then _ (pe_loop hless s3 hv1 (i:=a+1) (j:=b - 1) (a:=a) (by omega) (by omega) (by omega) (by omega) ?_ ?_ ?_ ?_) ?_
 ·simp only[upd_app,qa,↓reduceIte]
  rfl
 ·simp only[upd_app,qa,↓reduceIte]
  rfl
 ·simp only[upd_app,qa,↓reduceIte]
 ·simp only[upd_app,↓reduceIte]
 rintro e' tm hp' ⟨rfl,s5,hd3,ti⟩
 refine vcE.ex (by simp (disch:=first|assumption|omega) only[go_sem,↓reduceIte,ti]; rfl) ?_
 exact⟨_,rfl,rfl,s5,by omega⟩
theorem pi_scan {n:Nat} {tm:Env} {a b i c:Nat} (hless:Lss L lt T less) (s:Srt L e id hp0 hp d) (hv:SlA id d v) (hb:b≤d.size) (hi:1≤i) (hib:i≤b) (t0:tm 0=v) (t1:tm 1=.int .i64 a) (t2:tm 2=.int .i64 b) (t7:tm 7=.int .i64 i) (t8:tm 8=.int .i64 c) :
  vcE P hint T n (IC.block 2 (IC.loop (piB0 less))) tm hp fun e' tm' hp'=>e'=.normal∧hp'=hp∧i≤Sort.scanSorted lt d b i∧Sort.scanSorted lt d b i≤b∧tm' 0=v∧tm' 1=.int .i64 a∧tm' 2=.int .i64 b∧tm' 7=.int .i64 (Sort.scanSorted lt d b i:Nat)∧tm' 8=.int .i64 c:=by
 have hsz:=hv.2
 have hfz:=L.fz
 refine vcE.block (vcE.loop (by intro l tm hp h; simp at h) (fun k tm' hp' => ∃ i':Nat,k=b - i'∧i≤i'∧i'≤b∧hp'=hp∧Sort.scanSorted lt d b i'=Sort.scanSorted lt d b i∧tm' 0=v∧tm' 1=.int .i64 a∧tm' 2=.int .i64 b∧tm' 7=.int .i64 i'∧tm' 8=.int .i64 c) (b - i) ⟨i,rfl,qk _,hib,rfl,rfl,t0,t1,t2,t7,t8⟩ ?_)
 clear t0 t1 t2 t7 t8
 rintro k tm hp' ⟨i1,rfl,hi1,hi2,rfl,hs,t0,t1,t2,t7,t8⟩
 rw[Sort.scanSorted] at hs
 by_cases h:i1<b
 rotate_left
 ·rw[if_neg (by simp[h])] at hs
  refine vcE.ex (by simp (disch:=first|assumption|omega) only[go_sem,exOps.eq_2,↓reduceIte,t7,qa,t2,qT,h,decide_false]; rfl) ?_
  rw[← hs]
  refine⟨rfl,rfl,hi1,hi2,?_,?_,?_,?_,?_⟩
  all_goals simp only[upd_app,qa,↓reduceIte,t0,t1,t2,t7,t8]
 have h1:i1<d.size:=by omega
 have h2:i1 - 1<d.size:=by omega
 have x1:=s.get h1
 have y1:=hv.1 i1 h1
 have y2:=hv.1 (i1 - 1) h2
 have p1:=pick_at (L:=L) h1
 have p2:=pick_at (L:=L) h2
 have w1:=natW (x:=(i1:Int) - 1) (i1 - 1) (by omega) (by omega)
 have w2:=natW (x:=(i1:Int)+1) (i1+1) (by omega) (by omega)
 have hc:=hless d[i1]! d[i1 - 1]!
 rw[decide_eq_true h,Bool.true_and] at hs
 cases hl:lt d[i1]! d[i1 - 1]! <;> rw[hl] at hc hs
 ·refine vcE.ex (by simp (disch:=first|assumption|omega) only[go_sem,exOps.eq_2,↓reduceIte,t7,qa,t2,qT,h,reduceCtorEq,t0,y1,x1,↓p1,w1,y2,↓p2,frzL.eq_2,hfz,hc,nidL.eq_2,w2]; rfl) ?_
  refine⟨b - (i1+1),by omega,i1+1,rfl,by omega,by omega,rfl,by simpa using hs,?_,?_,?_,?_,?_⟩
  all_goals simp only[upd_app,qa,↓reduceIte,t0,t1,t2,t8]
 ·rw[if_neg (by simp)] at hs
  refine vcE.ex (by simp (disch:=first|assumption|omega) only[go_sem,exOps.eq_2,↓reduceIte,t7,qa,t2,qT,h,reduceCtorEq,t0,y1,x1,↓p1,w1,y2,↓p2,frzL.eq_2,hfz,hc,nidL.eq_2]; rfl) ?_
  rw[← hs]
  refine⟨rfl,rfl,hi1,hi2,?_,?_,?_,?_,?_⟩
  all_goals simp only[upd_app,qa,↓reduceIte,t0,t1,t2,t7,t8]
theorem pi_down {n:Nat} {tm:Env} {a b i j c:Nat} (hless:Lss L lt T less) (s:Srt L e id hp0 hp d) (hv:SlA id d v) (hj:j<d.size) (t0:tm 0=v) (t1:tm 1=.int .i64 a) (t2:tm 2=.int .i64 b) (t7:tm 7=.int .i64 i) (t8:tm 8=.int .i64 c) (t9:tm 9=.int .i64 j) :
  vcE P hint T n (IC.block 4 (IC.loop (piB1 less))) tm hp fun e' tm' hp'=>e'=.normal∧Srt L e id hp0 hp' (Sort.shiftDown lt j d)∧(Sort.shiftDown lt j d).size=d.size∧tm' 0=v∧tm' 1=.int .i64 a∧tm' 2=.int .i64 b∧tm' 7=.int .i64 i∧tm' 8=.int .i64 c:=by
 have hsz:=hv.2
 have hfz:=L.fz
 refine vcE.block (vcE.loop (by intro l tm hp h; simp at h) (fun k tm' hp' => ∃ d':Array α,k≤j∧d'.size=d.size∧Srt L e id hp0 hp' d'∧Sort.shiftDown lt k d'=Sort.shiftDown lt j d∧tm' 0=v∧tm' 1=.int .i64 a∧tm' 2=.int .i64 b∧tm' 7=.int .i64 i∧tm' 8=.int .i64 c∧tm' 9=.int .i64 (k:Nat)) j ⟨d,qk _,rfl,s,rfl,t0,t1,t2,t7,t8,t9⟩ ?_)
 clear t0 t1 t2 t7 t8 t9 s
 rintro k tm hp ⟨d1,hk,hd1,s,hs,t0,t1,t2,t7,t8,t9⟩
 have hv1:=hv.of hd1
 cases k with
 | zero =>
  have h:¬ (1:Int)≤((0:Nat):Int):=by omega
  refine vcE.ex (by simp (disch:=first|assumption|omega) only[go_sem,↓reduceIte,t9,ge_iff_le,h,decide_false]; rfl) ?_
  rw[← hs]
  refine⟨rfl,s,hd1,?_,?_,?_,?_,?_⟩
  all_goals simp only[upd_app,qa,↓reduceIte,t0,t1,t2,t7,t8]
 | succ k =>
  have h:(1:Int)≤((k+1:Nat):Int):=by omega
  have h1:k+1<d1.size:=by omega
  have h2:k<d1.size:=by omega
  have x1:=s.get h1
  have y1:=hv1.1 (k+1) h1
  have y2:=hv1.1 k h2
  have p1:=pick_at (L:=L) h1
  have p2:=pick_at (L:=L) h2
  have w1:=natW (x:=((k+1:Nat):Int) - 1) k (by omega) (by omega)
  have hc:=hless d1[k+1]! d1[k]!
  rw[Sort.shiftDown] at hs
  cases hl:lt d1[k+1]! d1[k]! <;> rw[hl] at hc hs
  ·rw[if_pos (by simp)] at hs
   refine vcE.ex (by simp (disch:=first|assumption|omega) only[go_sem,↓reduceIte,t9,ge_iff_le,h,exOps.eq_2,reduceCtorEq,t0,qa,y1,x1,↓p1,w1,y2,↓p2,frzL.eq_2,hfz,hc,nidL.eq_2]; rfl) ?_
   rw[← hs]
   refine⟨rfl,s,hd1,?_,?_,?_,?_,?_⟩
   all_goals simp only[upd_app,qa,↓reduceIte,t0,t1,t2,t7,t8]
  ·rw[if_neg (by simp)] at hs
   obtain⟨z1,z2,hst1,hst2,s3⟩:=s.swap h1 h2
   refine vcE.ex (by simp (disch:=first|assumption|omega) only[go_sem,↓reduceIte,t9,ge_iff_le,h,exOps.eq_2,reduceCtorEq,t0,qa,y1,x1,↓p1,w1,y2,↓p2,frzL.eq_2,hfz,hc,nidL.eq_2,↓hst1,↓hst2]; rfl) ?_
   refine⟨k,by omega,_,by omega,by rw[Sort.swp_size]; exact hd1,s3,hs,?_,?_,?_,?_,?_,?_⟩
   all_goals simp only[upd_app,qa,↓reduceIte,t0,t1,t2,t7,t8]
theorem pi_up {n:Nat} {tm:Env} {a b i j c:Nat} (hless:Lss L lt T less) (s:Srt L e id hp0 hp d) (hv:SlA id d v) (hb:b≤d.size) (hj:1≤j) (hjb:j≤b) (t0:tm 0=v) (t1:tm 1=.int .i64 a) (t2:tm 2=.int .i64 b) (t7:tm 7=.int .i64 i) (t8:tm 8=.int .i64 c) (t10:tm 10=.int .i64 j) :
  vcE P hint T n (IC.block 6 (IC.loop (piB2 less))) tm hp fun e' tm' hp'=>e'=.normal∧Srt L e id hp0 hp' (Sort.shiftUp lt b j d)∧(Sort.shiftUp lt b j d).size=d.size∧tm' 0=v∧tm' 1=.int .i64 a∧tm' 2=.int .i64 b∧tm' 7=.int .i64 i∧tm' 8=.int .i64 c:=by
 have hsz:=hv.2
 have hfz:=L.fz
 refine vcE.block (vcE.loop (by intro l tm hp h; simp at h) (fun k tm' hp' => ∃ (j':Nat) (d':Array α),k=b - j'∧j≤j'∧j'≤b∧d'.size=d.size∧Srt L e id hp0 hp' d'∧Sort.shiftUp lt b j' d'=Sort.shiftUp lt b j d∧tm' 0=v∧tm' 1=.int .i64 a∧tm' 2=.int .i64 b∧tm' 7=.int .i64 i∧tm' 8=.int .i64 c∧tm' 10=.int .i64 j') (b - j) ⟨j,d,rfl,qk _,hjb,rfl,s,rfl,t0,t1,t2,t7,t8,t10⟩ ?_)
 clear t0 t1 t2 t7 t8 t10 s
 rintro k tm hp ⟨j1,d1,rfl,hj1,hj2,hd1,s,hs,t0,t1,t2,t7,t8,t10⟩
 have hv1:=hv.of hd1
 rw[Sort.shiftUp] at hs
 by_cases h:j1<b
 rotate_left
 ·rw[if_neg h] at hs
  refine vcE.ex (by simp (disch:=first|assumption|omega) only[go_sem,↓reduceIte,t10,qa,t2,qT,h,decide_false]; rfl) ?_
  rw[← hs]
  refine⟨rfl,s,hd1,?_,?_,?_,?_,?_⟩
  all_goals simp only[upd_app,qa,↓reduceIte,t0,t1,t2,t7,t8]
 rw[if_pos h] at hs
 have h1:j1<d1.size:=by omega
 have h2:j1 - 1<d1.size:=by omega
 have x1:=s.get h1
 have y1:=hv1.1 j1 h1
 have y2:=hv1.1 (j1 - 1) h2
 have p1:=pick_at (L:=L) h1
 have p2:=pick_at (L:=L) h2
 have w1:=natW (x:=(j1:Int) - 1) (j1 - 1) (by omega) (by omega)
 have w2:=natW (x:=(j1:Int)+1) (j1+1) (by omega) (by omega)
 have hc:=hless d1[j1]! d1[j1 - 1]!
 cases hl:lt d1[j1]! d1[j1 - 1]! <;> rw[hl] at hc hs
 ·rw[if_pos (by simp)] at hs
  refine vcE.ex (by simp (disch:=first|assumption|omega) only[go_sem,↓reduceIte,t10,qa,t2,qT,h,exOps.eq_2,reduceCtorEq,t0,y1,x1,↓p1,w1,y2,↓p2,frzL.eq_2,hfz,hc,nidL.eq_2]; rfl) ?_
  rw[← hs]
  refine⟨rfl,s,hd1,?_,?_,?_,?_,?_⟩
  all_goals simp only[upd_app,qa,↓reduceIte,t0,t1,t2,t7,t8]
 ·rw[if_neg (by simp)] at hs
  obtain⟨z1,z2,hst1,hst2,s3⟩:=s.swap h1 h2
  refine vcE.ex (by simp (disch:=first|assumption|omega) only[go_sem,↓reduceIte,t10,qa,t2,qT,h,exOps.eq_2,reduceCtorEq,t0,y1,x1,↓p1,w1,y2,↓p2,frzL.eq_2,hfz,hc,nidL.eq_2,↓hst1,↓hst2,w2]; rfl) ?_
  refine⟨b - (j1+1),by omega,j1+1,_,rfl,by omega,by omega,by rw[Sort.swp_size]; exact hd1,s3,hs,?_,?_,?_,?_,?_,?_⟩
  all_goals simp only[upd_app,qa,↓reduceIte,t0,t1,t2,t7,t8]
theorem pi_zero (a b i:Nat) (d:Array α):Sort.partialIns lt a b 0 i d=(d,false):=rfl
theorem pi_succ (a b k i:Nat) (d:Array α):Sort.partialIns lt a b (k+1) i d=if Sort.scanSorted lt d b i=b then (d,true) else if b - a<50 then (d,false) else Sort.partialIns lt a b k (Sort.scanSorted lt d b i) (if b - Sort.scanSorted lt d b i≥2 then Sort.shiftUp lt b (Sort.scanSorted lt d b i+1) (if Sort.scanSorted lt d b i - a≥2 then Sort.shiftDown lt (Sort.scanSorted lt d b i - 1) (Sort.swp d (Sort.scanSorted lt d b i) (Sort.scanSorted lt d b i - 1)) else Sort.swp d (Sort.scanSorted lt d b i) (Sort.scanSorted lt d b i - 1)) else (if Sort.scanSorted lt d b i - a≥2 then Sort.shiftDown lt (Sort.scanSorted lt d b i - 1) (Sort.swp d (Sort.scanSorted lt d b i) (Sort.scanSorted lt d b i - 1)) else Sort.swp d (Sort.scanSorted lt d b i) (Sort.scanSorted lt d b i - 1))):=rfl
theorem pi_calls (hm:P.follows .mixedOrders=true) (hT:TabOk P T) (hless:Lss L lt T less) (hf:compF P hint f=some ⟨piC less,piN,[.t 6]⟩) (s:Srt L e id hp0 hp d) (hv:SlA id d v) {a b:Nat} (hab:a<b) (hb:b≤d.size) :
  ACalls P f [v,.int .i64 a,.int .i64 b] hp fun r hp'=>r=.bool (Sort.partialInsertionSort lt d a b).2∧Srt L e id hp0 hp' (Sort.partialInsertionSort lt d a b).1∧(Sort.partialInsertionSort lt d a b).1.size=d.size:=by
 refine calls_e hm hT hf (by rfl) (by simp[piN]) ?_
 have hsz:=hv.2
 unfold Sort.partialInsertionSort
 have w0:=natW (x:=(a:Int)+1) (a+1) (by omega) (by omega)
 refine vcE.s1 (k:=vcE.step (by simp (disch:=first|assumption|omega) only[go_sem,↓reduceIte,qa,w0]; rfl) ?_)
 refine vcE.then (fun e' tm' hp'=>RetE [.t 6] (fun r hp'=>r=.bool (Sort.partialIns lt a b 5 (a+1) d).2∧Srt L e id hp0 hp' (Sort.partialIns lt a b 5 (a+1) d).1∧(Sort.partialIns lt a b 5 (a+1) d).1.size=d.size) .ret tm' hp'∧e'=.ret∨e'=.normal∧Srt L e id hp0 hp' (Sort.partialIns lt a b 5 (a+1) d).1∧(Sort.partialIns lt a b 5 (a+1) d).1.size=d.size∧(Sort.partialIns lt a b 5 (a+1) d).2=false) ?_ ?_
 rotate_left
 ·rintro e' tm hp' (⟨h,rfl⟩|⟨rfl,s1,hd1,hr⟩)
  ·exact h
  ·refine vcE.e0 ?_
   exact⟨_,rfl,by rw[hr]; rfl,s1,hd1⟩
 refine vcE.s1 (k:=vcE.block (vcE.loop (by intro l tm hp h; simp at h) (fun k tm' hp' => ∃ (i:Nat) (d':Array α),k≤5∧1≤i∧i≤b∧d'.size=d.size∧Srt L e id hp0 hp' d'∧Sort.partialIns lt a b k i d'=Sort.partialIns lt a b 5 (a+1) d∧tm' 0=v∧tm' 1=.int .i64 a∧tm' 2=.int .i64 b∧tm' 7=.int .i64 i∧tm' 8=.int .i64 ((5 - k:Nat):Int)) 5 ⟨a+1,d,by omega,by omega,by omega,rfl,s,rfl,rfl,rfl,rfl,rfl,rfl⟩ ?_))
 clear s
 rintro k tm hp ⟨i,d1,hk5,hi1,hib,hd1,s,hs,t0,t1,t2,t7,t8⟩
 have hv1:=hv.of hd1
 cases k with
 | zero =>
  have h:¬ ((5 - 0:Nat):Int)<5:=by omega
  refine vcE.ex (by simp (disch:=first|assumption|omega) only[go_sem,↓reduceIte,t8,h,decide_false]; rfl) ?_
  rw[pi_zero] at hs
  rw[← hs]
  exact .inr ⟨rfl,s,hd1,rfl⟩
 | succ k =>
  have h:((5 - (k+1):Nat):Int)<5:=by omega
  refine vcE.step (by simp (disch:=first|assumption|omega) only[go_sem,↓reduceIte,t8,h,decide_true]; rfl) ?_
  refine vcE.then (fun e' tm' hp'=>RetE [.t 6] (fun r hp'=>r=.bool (Sort.partialIns lt a b 5 (a+1) d).2∧Srt L e id hp0 hp' (Sort.partialIns lt a b 5 (a+1) d).1∧(Sort.partialIns lt a b 5 (a+1) d).1.size=d.size) .ret tm' hp'∧e'=.ret∨e'=.normal∧∃ (i:Nat) (d':Array α),1≤i∧i≤b∧d'.size=d.size∧Srt L e id hp0 hp' d'∧Sort.partialIns lt a b k i d'=Sort.partialIns lt a b 5 (a+1) d∧tm' 0=v∧tm' 1=.int .i64 a∧tm' 2=.int .i64 b∧tm' 7=.int .i64 i∧tm' 8=.int .i64 ((5 - (k+1):Nat):Int)) ?_ ?_
  rotate_left
  ·rintro e' tm hp' (⟨h,rfl⟩|⟨rfl,i2,d2,g1,g2,g3,g4,g5,u0,u1,u2,u7,u8⟩)
   ·exact .inl ⟨h,rfl⟩
   ·have w8:=natW (x:=((5 - (k+1):Nat):Int)+1) (5 - k) (by omega) (by omega)
    refine vcE.ex (by simp (disch:=first|assumption|omega) only[go_sem,↓reduceIte,u8,w8]; rfl) ?_
    refine⟨k,by omega,i2,d2,by omega,g1,g2,g3,g4,g5,?_,?_,?_,?_,?_⟩
    all_goals simp only[upd_app,qa,↓reduceIte,u0,u1,u2,u7]
  refine vcE.block (vcE.then _ (pi_scan (a:=a) (c:=5 - (k+1)) hless s hv1 (by omega) hi1 hib (by simp only[upd_app,qa,↓reduceIte,t0]) (by simp only[upd_app,qa,↓reduceIte,t1]) (by simp only[upd_app,qa,↓reduceIte,t2]) (by simp only[upd_app,qa,↓reduceIte,t7]) (by simp only[upd_app,qa,↓reduceIte,t8])) ?_)
  clear t0 t1 t2 t7 t8
  rintro e' tm hp' ⟨rfl,rfl,q1,q2,t0,t1,t2,t7,t8⟩
  rw[pi_succ] at hs
  generalize hi2:Sort.scanSorted lt d1 b i=i2 at *
  by_cases hb2:i2=b
  ·rw[if_pos hb2] at hs
   subst hb2
   refine vcE.ex (by simp (disch:=first|assumption|omega) only[go_sem,↓reduceIte,qa,t2,t7]; rfl) ?_
   rw[← hs]
   exact .inl ⟨⟨_,rfl,rfl,s,hd1⟩,rfl⟩
  rw[if_neg hb2] at hs
  have hb3:¬ (i2:Int)=(b:Int):=by omega
  refine vcE.step (by simp (disch:=first|assumption|omega) only[go_sem,↓reduceIte,qa,t2,t7,hb3,decide_false]; rfl) ?_
  have w9:=natW (x:=(b:Int) - (a:Int)) (b - a) (by omega) (by omega)
  by_cases h50:b - a<50
  ·rw[if_pos h50] at hs
   have h50':((b - a:Nat):Int)<50:=by omega
   refine vcE.ex (by simp (disch:=first|assumption|omega) only[go_sem,↓reduceIte,qa,t1,t2,w9,h50',decide_true]; rfl) ?_
   rw[← hs]
   exact .inl ⟨⟨_,rfl,rfl,s,hd1⟩,rfl⟩
  rw[if_neg h50] at hs
  have h50':¬ ((b - a:Nat):Int)<50:=by omega
  refine vcE.step (by simp (disch:=first|assumption|omega) only[go_sem,↓reduceIte,qa,t1,t2,w9,h50',decide_false]; rfl) ?_
  have h1:i2<d1.size:=by omega
  have h2:i2 - 1<d1.size:=by omega
  have x1:=s.get h1
  have y1:=hv1.1 i2 h1
  have y2:=hv1.1 (i2 - 1) h2
  have p1:=pick_at (L:=L) h1
  have p2:=pick_at (L:=L) h2
  have w1:=natW (x:=(i2:Int) - 1) (i2 - 1) (by omega) (by omega)
  have w2:=natW (x:=(i2:Int)+1) (i2+1) (by omega) (by omega)
  have w3:IntKind.wrap .i64 ((i2:Int) - (a:Int))=(i2:Int) - (a:Int):=wrap_i64 (by omega) (by omega)
  have w4:=natW (x:=(b:Int) - (i2:Int)) (b - i2) (by omega) (by omega)
  obtain⟨z1,z2,hst1,hst2,s3⟩:=s.swap h1 h2
  refine vcE.step (by simp (disch:=first|assumption|omega) only[go_sem,exOps.eq_2,↓reduceIte,reduceCtorEq,t0,qa,t7,w1,y2,x1,↓p2,y1,↓p1,↓hst1,↓hst2]; rfl) ?_
  have hd2:(Sort.swp d1 i2 (i2 - 1)).size=d1.size:=Sort.swp_size _ _ _
  generalize Sort.swp d1 i2 (i2 - 1)=d2 at *
  have hv2:=hv1.of hd2
  refine vcE.then (fun e' tm' hp'=>e'=.normal∧Srt L e id hp0 hp' (if i2 - a≥2 then Sort.shiftDown lt (i2 - 1) d2 else d2)∧(if i2 - a≥2 then Sort.shiftDown lt (i2 - 1) d2 else d2).size=d.size∧tm' 0=v∧tm' 1=.int .i64 a∧tm' 2=.int .i64 b∧tm' 7=.int .i64 i2∧tm' 8=.int .i64 ((5 - (k+1):Nat):Int)) ?_ ?_
  ·by_cases hge:i2 - a≥2
   ·have hge':(2:Int)≤(i2:Int) - (a:Int):=by omega
    simp only[if_pos hge]
    refine vcE.step (by simp (disch:=first|assumption|omega) only[go_sem,↓reduceIte,qa,t7,t1,w3,hge']; rfl) (vcE.condTrue (by simp only[evE,upd_app,↓reduceIte]) (vcE.step (by simp (disch:=first|assumption|omega) only[go_sem,↓reduceIte,qa,t7,w1]; rfl) ?_))
    refine vcE.mono (pi_down (a:=a) (b:=b) (i:=i2) (c:=5 - (k+1)) hless s3 hv2 (j:=i2 - 1) (by omega) (by simp only[upd_app,qa,↓reduceIte,t0]) (by simp only[upd_app,qa,↓reduceIte,t1]) (by simp only[upd_app,qa,↓reduceIte,t2]) (by simp only[upd_app,qa,↓reduceIte,t7]) (by simp only[upd_app,qa,↓reduceIte,t8]) (by simp only[upd_app,↓reduceIte])) ?_
    rintro e' tm' hp' ⟨rfl,g1,g2,g3⟩
    exact⟨rfl,g1,by omega,g3⟩
   ·have hge':¬ (2:Int)≤(i2:Int) - (a:Int):=by omega
    simp only[if_neg hge]
    refine vcE.ex (by simp (disch:=first|assumption|omega) only[go_sem,↓reduceIte,qa,t7,t1,w3,hge',decide_false]; rfl) ?_
    refine⟨rfl,s3,by omega,?_,?_,?_,?_,?_⟩
    all_goals simp only[upd_app,qa,↓reduceIte,t0,t1,t2,t7,t8]
  clear t0 t1 t2 t7 t8
  rintro e' tm hp' ⟨rfl,s4,hd4,t0,t1,t2,t7,t8⟩
  generalize (if i2 - a≥2 then Sort.shiftDown lt (i2 - 1) d2 else d2)=d3 at *
  have hv3:=hv.of hd4
  by_cases hge:b - i2≥2
  ·have hge':(2:Int)≤((b - i2:Nat):Int):=by omega
   rw[if_pos hge] at hs
   refine vcE.step (by simp (disch:=first|assumption|omega) only[go_sem,↓reduceIte,t2,qa,t7,w4,hge']; rfl) (vcE.condTrue (by simp only[evE,upd_app,↓reduceIte]) (vcE.step (by simp (disch:=first|assumption|omega) only[go_sem,↓reduceIte,qa,t7,w2]; rfl) ?_))
   refine vcE.mono (pi_up (a:=a) (b:=b) (i:=i2) (c:=5 - (k+1)) hless s4 hv3 (j:=i2+1) (by omega) (by omega) (by omega) (by simp only[upd_app,qa,↓reduceIte,t0]) (by simp only[upd_app,qa,↓reduceIte,t1]) (by simp only[upd_app,qa,↓reduceIte,t2]) (by simp only[upd_app,qa,↓reduceIte,t7]) (by simp only[upd_app,qa,↓reduceIte,t8]) (by simp only[upd_app,↓reduceIte])) ?_
   rintro e' tm' hp' ⟨rfl,g1,g2,g3⟩
   exact .inr ⟨rfl,i2,_,by omega,by omega,by omega,g1,hs,g3⟩
  ·have hge':¬ (2:Int)≤((b - i2:Nat):Int):=by omega
   rw[if_neg hge] at hs
   refine vcE.ex (by simp (disch:=first|assumption|omega) only[go_sem,↓reduceIte,t2,qa,t7,w4,hge',decide_false]; rfl) ?_
   refine .inr ⟨rfl,i2,_,by omega,by omega,hd4,s4,hs,?_,?_,?_,?_,?_⟩
   all_goals simp only[upd_app,qa,↓reduceIte,t0,t1,t2,t7,t8]
end
end Go.Gi
