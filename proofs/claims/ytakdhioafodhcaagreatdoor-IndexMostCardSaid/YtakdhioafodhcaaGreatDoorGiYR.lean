/- What a glob matches: plain lists. -/
/- Plain forms of globs, by plain lists: what they match, how long they are. -/
/- bytes.Count of one byte; glob.Norm: what they give. -/
/- glob.Norm: what it gives. -/
/- The states of a glob: rows of places, told by numbers. -/
/- Loops over functions, told by what is so behind each round. -/
import Derived.Test.YtakdhioafodhcaaGreatDoorGiSL
import Derived.Test.YtakdhioafodhcaaGreatDoorGiRM
import Derived.Test.YtakdhioafodhcaaGreatDoorGiXA
set_option linter.unusedVariables false
set_option linter.unusedSimpArgs false
namespace Go.Gi
open _root_.Bool renaming false_eq_true → qA, and_eq_true → qp, or_eq_true → xO, and_false → zf, and_true → xP, false_or → xZ
open _root_.Go.Proofs.Tryz renaming prog → qi
open _root_.List renaming getElem?_eq_some_iff → qf, getElem?_eq_none_iff → zm, getElem?_eq_getElem → qg, length_replicate → xD, take_append_drop → xE, mem_cons_of_mem → qI, length_append → qo, mem_cons_self → qD, append_assoc → qV, length_cons → qr, cons_append → qZ, length_take → xd, take_length → xl, length_drop → xq, append_nil → qt, length_nil → qx, nil_append → qz, take_zero → xi
open _root_.Nat renaming reduceEqDiff → qa, reduceLeDiff → qu, reduceAdd → qs, le_refl → qk
open _root_.Go.Gi.Tab renaming addO_self → xe, addO_ne → qS
open _root_.Go.Gi.TabOk renaming addO → xp
section
def anyTail (f:List UInt8→Bool):List UInt8→Bool
 | []=>f []
 | b :: t=>f (b :: t) || anyTail f t
def gm (s:UInt8→UInt8→Bool):List UInt8→List UInt8→Bool
 | [],t=>t.isEmpty
 | c :: p,t=>if c=42 then anyTail (gm s p) t else match t with
  | []=>false
  | b :: t'=>(c == 63 || s c b) && gm s p t'
theorem anyTail_iff {f:List UInt8→Bool}:∀ {t:List UInt8},anyTail f t=true↔∃ k,k≤t.length∧f (t.drop k)=true
 | []=>by
  simp only[anyTail,qx,Nat.le_zero_eq,List.drop_nil]
  exact⟨fun h=>⟨0,rfl,h⟩,fun ⟨_,_,h⟩=>h⟩
 | b :: t=>by
  simp only[anyTail,xO,anyTail_iff (t:=t),qr]
  constructor
  ·rintro (h|⟨k,h1,h2⟩)
   ·exact⟨0,by omega,h⟩
   ·exact⟨k+1,by omega,by simpa using h2⟩
  ·rintro⟨k,h1,h2⟩
   cases k with
   | zero=>exact .inl h2
   | succ k=>exact .inr ⟨k,by omega,by simpa using h2⟩
theorem gm_star {s:UInt8→UInt8→Bool} {p t:List UInt8}:gm s (42 :: p) t=true↔∃ k,k≤t.length∧gm s p (t.drop k)=true:=by
 have e:gm s (42 :: p) t=anyTail (gm s p) t:=by
  rw[gm.eq_def]
  simp only[if_true]
 rw[e]
 exact anyTail_iff
theorem gm_one {s:UInt8→UInt8→Bool} {c:UInt8} {p t:List UInt8} (hc:c≠42):gm s (c :: p) t=true↔∃ b t',t=b :: t'∧(c=63∨s c b=true)∧gm s p t'=true:=by
 rw[gm.eq_def]
 simp only[if_neg hc]
 cases t with
 | nil=>simp
 | cons b t' =>
  simp only[qp,xO,beq_iff_eq]
  constructor
  ·exact fun h=>⟨b,t',rfl,h⟩
  ·rintro⟨b',t'',h1,h2⟩
   cases h1
   exact h2
theorem gm_append {s:UInt8→UInt8→Bool} {q:List UInt8}:∀ {p t:List UInt8},gm s (p++q) t=true↔∃ k,k≤t.length∧gm s p (t.take k)=true∧gm s q (t.drop k)=true
 | [],t=>by
  simp only[qz,gm,List.isEmpty_iff,List.take_eq_nil_iff]
  constructor
  ·exact fun h=>⟨0,by omega,.inl rfl,h⟩
  ·rintro⟨k,h1,rfl|rfl,h2⟩
   ·simpa using h2
   ·simpa using h2
 | c :: p,t=>by
  by_cases hc:c=42
  ·subst hc
   simp only[qZ,gm_star]
   constructor
   ·rintro⟨k,h1,h2⟩
    obtain⟨j,h3,h4,h5⟩:=gm_append.1 h2
    rw[xq] at h3
    refine⟨k+j,by omega,⟨k,by rw[xd]; omega,?_⟩,by rw[← List.drop_drop]; exact h5⟩
    rw[List.take_drop] at h4
    rw[show k+j=j+k by omega] at *
    simpa[Nat.add_comm] using h4
   ·rintro⟨k,h1,⟨j,h2,h3⟩,h4⟩
    rw[xd] at h2
    refine⟨j,by omega,gm_append.2 ⟨k - j,by rw[xq]; omega,?_,?_⟩⟩
    ·rw[List.drop_take] at h3
     exact h3
    ·rw[List.drop_drop,show j+(k - j)=k by omega]
     exact h4
  ·simp only[qZ,gm_one hc]
   constructor
   ·rintro⟨b,t',rfl,h1,h2⟩
    obtain⟨k,h3,h4,h5⟩:=gm_append.1 h2
    exact⟨k+1,by simp only[qr]; omega,⟨b,t'.take k,rfl,h1,h4⟩,h5⟩
   ·rintro⟨k,h1,⟨b,t',h2,h3,h4⟩,h5⟩
    cases k with
    | zero=>simp at h2
    | succ k=>cases t with
     | nil=>simp at h2
     | cons b' t =>
      simp only[List.take_succ_cons,List.cons.injEq] at h2
      obtain⟨rfl,rfl⟩:=h2
      simp only[qr] at h1
      exact⟨b',t,rfl,h3,gm_append.2 ⟨k,by omega,h4,h5⟩⟩
theorem gm_any (s:UInt8→UInt8→Bool) (t:List UInt8):gm s [42] t=true:=
 gm_star.2 ⟨t.length,qk _,by simp[gm]⟩
def noStar (q:List UInt8):Prop:=∀ c ∈ q,c≠42
theorem gm_noStar {s:UInt8→UInt8→Bool} {r:List UInt8}:∀ {q u:List UInt8},noStar q→gm s (q++r) u=true→q.length≤u.length∧gm s r (u.drop q.length)=true
 | [],u,_,h=>⟨by simp,by simpa using h⟩
 | c :: q,u,hn,h=>by
  rw[qZ,gm_one (hn c (by simp))] at h
  obtain⟨b,t',rfl,_,h2⟩:=h
  obtain⟨h3,h4⟩:=gm_noStar (fun c hc=>hn c (by simp[hc])) h2
  exact⟨by simp only[qr]; omega,by simpa using h4⟩
structure GInv (s:UInt8→UInt8→Bool) (p t:List UInt8) (i k a f:Nat):Prop where
 ip:i≤p.length
 kt:k≤t.length
 none:a=0→(gm s p t=true↔gm s (p.drop i) (t.drop k)=true)
 ai:a≠0→a≤i∧f≤k∧i - a=k - f
 ns:a≠0→∀ m,a≤m→m<i→p[m]?≠some 42
 all:a≠0→(gm s p t=true↔∃ j,f≤j∧j≤t.length∧gm s (p.drop a) (t.drop j)=true)
 cur:a≠0→(gm s (p.drop a) (t.drop f)=true↔gm s (p.drop i) (t.drop k)=true)
theorem GInv.start (s:UInt8→UInt8→Bool) (p t:List UInt8):GInv s p t 0 0 0 0:=
 ⟨by simp,by simp,fun _=>by simp,by simp,by simp,by simp,by simp⟩
theorem drop_at {l:List UInt8} {i:Nat} {c:UInt8} (h:l[i]? = some c):l.drop i=c :: l.drop (i+1):=by
 obtain⟨h1,h2⟩:=qf.1 h
 rw[List.drop_eq_getElem_cons h1,h2]
theorem GInv.mid {s:UInt8→UInt8→Bool} {p t:List UInt8} {i k a f:Nat} (h:GInv s p t i k a f) (ha:a≠0) {j:Nat} (hj:j≤t.length) (hg:gm s (p.drop a) (t.drop j)=true):i - a≤t.length - j∧gm s (p.drop i) (t.drop (j+(i - a)))=true:=by
 obtain⟨h1,h2,h3⟩:=h.ai ha
 have hip:=h.ip
 have e:p.drop a=(p.drop a).take (i - a)++p.drop i:=by
  conv=>lhs; rw[← xE (i - a) (p.drop a)]
  rw[List.drop_drop,show a+(i - a)=i by omega]
 rw[e] at hg
 have hl:((p.drop a).take (i - a)).length=i - a:=by rw[xd,xq]; omega
 obtain⟨h4,h5⟩:=gm_noStar (q:=(p.drop a).take (i - a)) (by
  intro c hc he
  subst he
  obtain⟨m,hm,hx⟩:=List.mem_iff_getElem.1 hc
  rw[hl] at hm
  rw[List.getElem_take,List.getElem_drop] at hx
  exact h.ns ha (a+m) (by omega) (by omega) (by rw[← hx]; exact qg (by omega))) hg
 rw[hl,xq] at h4
 rw[hl,List.drop_drop] at h5
 exact⟨h4,h5⟩
theorem GInv.star {s:UInt8→UInt8→Bool} {p t:List UInt8} {i k a f:Nat} (h:GInv s p t i k a f) (hc:p[i]? = some 42):GInv s p t (i+1) k (i+1) k:=by
 have hlt:i<p.length:=(qf.1 hc).1
 have hkt:=h.kt
 have e:gm s (p.drop i) (t.drop k)=true↔∃ j,k≤j∧j≤t.length∧gm s (p.drop (i+1)) (t.drop j)=true:=by
  rw[drop_at hc,gm_star]
  constructor
  ·rintro⟨j,h1,h2⟩
   rw[xq] at h1
   rw[List.drop_drop] at h2
   exact⟨k+j,by omega,by omega,h2⟩
  ·rintro⟨j,h1,h2,h3⟩
   refine⟨j - k,by rw[xq]; omega,?_⟩
   rw[List.drop_drop,show k+(j - k)=j by omega]
   exact h3
 refine⟨hlt,h.kt,by simp,fun _=>⟨by omega,by omega,by omega⟩,fun _ m h1 h2=>by omega,fun _=>?_,fun _=>Iff.rfl⟩
 by_cases ha:a=0
 ·rw[h.none ha]
  exact e
 ·rw[h.all ha]
  obtain⟨h1,h2,h3⟩:=h.ai ha
  constructor
  ·rintro⟨j,h4,h5,h6⟩
   obtain⟨h7,h8⟩:=h.mid ha h5 h6
   rw[drop_at hc,gm_star] at h8
   obtain⟨m,h9,h10⟩:=h8
   rw[xq] at h9
   rw[List.drop_drop] at h10
   exact⟨j+(i - a)+m,by omega,by omega,h10⟩
  ·intro h4
   exact⟨f,qk _,by omega,(h.cur ha).2 (e.2 h4)⟩
theorem GInv.one {s:UInt8→UInt8→Bool} {p t:List UInt8} {i k a f:Nat} (h:GInv s p t i k a f) {c b:UInt8} (hc:p[i]? = some c) (hb:t[k]? = some b) (hn:c≠42) (hm:c=63∨s c b=true):GInv s p t (i+1) (k+1) a f:=by
 have hlt:i<p.length:=(qf.1 hc).1
 have hlk:k<t.length:=(qf.1 hb).1
 have e:gm s (p.drop i) (t.drop k)=true↔gm s (p.drop (i+1)) (t.drop (k+1))=true:=by
  rw[drop_at hc,drop_at hb,gm_one hn]
  constructor
  ·rintro⟨b',t',h1,_,h2⟩
   cases h1
   exact h2
  ·exact fun h1=>⟨b,_,rfl,hm,h1⟩
 refine⟨hlt,hlk,fun ha=>(h.none ha).trans e,fun ha=>?_,fun ha m h1 h2=>?_,h.all,fun ha=>(h.cur ha).trans e⟩
 ·obtain⟨h1,h2,h3⟩:=h.ai ha
  exact⟨by omega,by omega,by omega⟩
 ·by_cases hm':m=i
  ·subst hm'
   rw[hc]
   simpa using hn
  ·exact h.ns ha m h1 (by omega)
theorem gm_miss {s:UInt8→UInt8→Bool} {p t:List UInt8} {i k:Nat} {b:UInt8} (hb:t[k]? = some b) (hm:∀ c,p[i]? = some c→c≠42∧c≠63∧s c b=false):¬ gm s (p.drop i) (t.drop k)=true:=by
 rw[drop_at hb]
 cases hc:p[i]? with
 | none =>
  rw[List.drop_eq_nil_iff.2 (zm.1 hc)]
  simp[gm]
 | some c =>
  obtain⟨h1,h2,h3⟩:=hm c hc
  rw[drop_at hc,gm_one h1]
  rintro⟨b',t',h4,h5,_⟩
  cases h4
  simp[h2,h3] at h5
theorem GInv.back {s:UInt8→UInt8→Bool} {p t:List UInt8} {i k a f:Nat} (h:GInv s p t i k a f) (ha:a≠0) (hk:k<t.length) (hm:¬ gm s (p.drop i) (t.drop k)=true):GInv s p t a (f+1) a (f+1):=by
 obtain⟨h1,h2,h3⟩:=h.ai ha
 have hip:=h.ip
 refine⟨by omega,by omega,fun h0=>absurd h0 ha,fun _=>⟨by omega,by omega,by omega⟩,fun _ m h4 h5=>by omega,fun _=>?_,fun _=>Iff.rfl⟩
 rw[h.all ha]
 constructor
 ·rintro⟨j,h4,h5,h6⟩
  by_cases hj:j=f
  ·subst hj
   exact absurd ((h.cur ha).1 h6) hm
  ·exact⟨j,by omega,h5,h6⟩
 ·rintro⟨j,h4,h5,h6⟩
  exact⟨j,by omega,h5,h6⟩
theorem GInv.last {s:UInt8→UInt8→Bool} {p t:List UInt8} {i k a f:Nat} (h:GInv s p t i k a f) (hk:k=t.length):gm s p t=true↔gm s (p.drop i) []=true:=by
 subst hk
 by_cases ha:a=0
 ·rw[h.none ha,List.drop_length]
 ·obtain⟨h1,h2,h3⟩:=h.ai ha
  rw[h.all ha]
  constructor
  ·rintro⟨j,h4,h5,h6⟩
   obtain⟨h7,h8⟩:=h.mid ha h5 h6
   rw[List.drop_eq_nil_iff.2 (show t.length≤j+(i - a) by omega)] at h8
   exact h8
  ·intro h4
   refine⟨f,qk _,h2,(h.cur ha).2 ?_⟩
   rw[List.drop_length]
   exact h4
theorem gm_stars {s:UInt8→UInt8→Bool} {p:List UInt8} {i:Nat} (hc:p[i]? = some 42):gm s (p.drop i) []=true↔gm s (p.drop (i+1)) []=true:=by
 rw[drop_at hc,gm_star]
 constructor
 ·rintro⟨k,_,h⟩
  simpa using h
 ·exact fun h=>⟨0,by simp,by simpa using h⟩
theorem gm_end {s:UInt8→UInt8→Bool} {p:List UInt8} {i:Nat} (hi:i≤p.length) (hc:p[i]?≠some 42):gm s (p.drop i) []=decide (i=p.length):=by
 cases h:p[i]? with
 | none =>
  have:=zm.1 h
  rw[List.drop_eq_nil_iff.2 this,decide_eq_true (by omega)]
  rfl
 | some c =>
  have h1:=(qf.1 h).1
  rw[decide_eq_false (by omega),Bool.eq_false_iff,drop_at h]
  rw[h] at hc
  intro hg
  rw[gm_one (by simpa using hc)] at hg
  obtain⟨_,_,h2,_⟩:=hg
  cases h2
end
section
def normS:Bool→List UInt8→List UInt8
 | b,[]=>if b then [42] else []
 | b,c :: p=>if c=42 then normS true p else if c=63 then 63 :: normS b p else (if b then [42] else [])++c :: normS false p
def normB (p:List UInt8):List UInt8:=normS false p
theorem gm_star2 {s:UInt8→UInt8→Bool} {p t:List UInt8}:gm s (42 :: 42 :: p) t=true↔gm s (42 :: p) t=true:=by
 constructor
 ·intro h
  obtain⟨k,h1,h2⟩:=gm_star.1 h
  obtain⟨j,h3,h4⟩:=gm_star.1 h2
  rw[xq] at h3
  rw[List.drop_drop] at h4
  exact gm_star.2 ⟨k+j,by omega,h4⟩
 ·intro h
  exact gm_star.2 ⟨0,by omega,by simpa using h⟩
theorem gm_star63 {s:UInt8→UInt8→Bool} {p t:List UInt8}:gm s (42 :: 63 :: p) t=true↔gm s (63 :: 42 :: p) t=true:=by
 have h63:(63:UInt8)≠42:=by decide
 constructor
 ·intro h
  obtain⟨k,h1,h2⟩:=gm_star.1 h
  obtain⟨b,t',h3,_,h4⟩:=(gm_one h63).1 h2
  cases t with
  | nil=>simp at h3
  | cons x t =>
   refine (gm_one h63).2 ⟨x,t,rfl,.inl rfl,gm_star.2 ⟨k,?_,?_⟩⟩
   ·have:=congrArg List.length h3
    simp only[xq,qr] at this
    omega
   ·have:(x :: t).drop (k+1)=t':=by rw[← List.drop_drop,h3]; rfl
    rw[List.drop_succ_cons] at this
    rw[this]
    exact h4
 ·intro h
  obtain⟨b,t',rfl,_,h2⟩:=(gm_one h63).1 h
  obtain⟨k,h3,h4⟩:=gm_star.1 h2
  refine gm_star.2 ⟨k,by simp only[qr]; omega,(gm_one h63).2 ?_⟩
  have hk:k<(b :: t').length:=by simp only[qr]; omega
  refine⟨(b :: t')[k],t'.drop k,?_,.inl rfl,h4⟩
  rw[List.drop_eq_getElem_cons hk]
  rfl
theorem gm_cons_congr {s:UInt8→UInt8→Bool} {c:UInt8} {p q:List UInt8} (h:∀ t,gm s p t=true↔gm s q t=true) (t:List UInt8):gm s (c :: p) t=true↔gm s (c :: q) t=true:=by
 by_cases hc:c=42
 ·subst hc
  simp only[gm_star,h]
 ·simp only[gm_one hc,h]
theorem gm_normS {s:UInt8→UInt8→Bool}:∀ (p:List UInt8) (b:Bool) (t:List UInt8),gm s (normS b p) t=true↔gm s (if b then 42 :: p else p) t=true
 | [],b,t=>by cases b<;>simp[normS]
 | c :: p,b,t=>by
  by_cases h42:c=42
  ·subst h42
   simp only[normS,if_true]
   rw[gm_normS p true t]
   cases b
   ·simp
   ·simpa using gm_star2.symm
  ·by_cases h63:c=63
   ·subst h63
    simp only[normS,if_neg h42,if_true]
    rw[gm_cons_congr (gm_normS p b) t]
    cases b
    ·simp
    ·simpa using gm_star63.symm
   ·simp only[normS,if_neg h42,if_neg h63]
    have ih:=gm_normS (s:=s) p false
    cases b
    ·simpa using gm_cons_congr ih t
    ·simpa using gm_cons_congr (gm_cons_congr (c:=c) ih) t
theorem gm_norm {s:UInt8→UInt8→Bool} (p t:List UInt8):gm s (normB p) t=gm s p t:=by
 have:=gm_normS (s:=s) p false t
 simp only[qA,if_false] at this
 exact Bool.eq_iff_iff.2 this
theorem norm_idem:∀ (p:List UInt8) (b:Bool),normS false (normS b p)=normS b p
 | [],b=>by cases b<;>simp[normS]
 | c :: p,b=>by
  by_cases h42:c=42
  ·subst h42
   simp only[normS,if_true]
   exact norm_idem p true
  ·by_cases h63:c=63
   ·subst h63
    simp only[normS,if_neg h42,if_true]
    rw[norm_idem p b]
   ·cases b
    ·simp only[normS,if_neg h42,if_neg h63,qA,if_false,qz,norm_idem p false]
    ·simp only[normS,if_neg h42,if_neg h63,if_true,qZ,qz,norm_idem p false]
theorem norm_len:∀ (p:List UInt8) (b:Bool),(normS b p).length≤p.length+if b then 1 else 0
 | [],b=>by cases b<;>simp[normS]
 | c :: p,b=>by
  have h1:=norm_len p true
  have h2:=norm_len p b
  have h3:=norm_len p false
  simp only[if_true,qA,if_false] at h1 h3
  by_cases h42:c=42
  ·subst h42
   simp only[normS,if_true,qr]
   omega
  ·by_cases h63:c=63
   ·subst h63
    simp only[normS,if_neg h42,if_true,qr]
    omega
   ·cases b
    ·simp only[normS,if_neg h42,if_neg h63,qA,if_false,qz,qr]
     omega
    ·simp only[normS,if_neg h42,if_neg h63,if_true,qZ,qz,qr]
     omega
theorem normB_len (p:List UInt8):(normB p).length≤p.length:=by simpa[normB] using norm_len p false
theorem normS_wild:∀ (w rest:List UInt8) (b:Bool),(∀ c ∈ w,c=42∨c=63)→normS b (w++rest)=List.replicate (w.count 63) 63++normS (b || decide (42 ∈ w)) rest
 | [],rest,b,_=>by simp
 | c :: w,rest,b,h=>by
  have hw:∀ c ∈ w,c=42∨c=63:=fun x hx=>h x (qI _ hx)
  rcases h c qD with rfl|rfl
  ·simp only[qZ,normS,if_true]
   rw[normS_wild w rest true hw]
   simp
  ·simp only[qZ,normS,if_neg (show ¬ (63:UInt8)=42 by decide),if_true]
   rw[normS_wild w rest b hw]
   simp[List.replicate_succ]
theorem normS_plain {c:UInt8} (h42:c≠42) (h63:c≠63) (b:Bool) (p:List UInt8):normS b (c :: p)=(if b then [42] else [])++c :: normS false p:=by
 simp only[normS,if_neg h42,if_neg h63]
theorem normS_end (b:Bool) (rest:List UInt8) (h:rest=[]∨∃ c p,rest=c :: p∧c≠42∧c≠63):normS b rest=(if b then [42] else [])++normS false rest:=by
 rcases h with rfl|⟨c,p,rfl,h1,h2⟩
 ·cases b<;>simp[normS]
 ·rw[normS_plain h1 h2,normS_plain h1 h2]
  simp
theorem count_wild {w:List UInt8} (h:∀ c ∈ w,c=42∨c=63):w.count 63<w.length↔42 ∈ w:=by
 induction w with
 | nil=>simp
 | cons c w ih =>
  have hw:∀ c ∈ w,c=42∨c=63:=fun x hx=>h x (qI _ hx)
  have ih:=ih hw
  have hle:w.count 63≤w.length:=List.count_le_length
  rcases h c qD with rfl|rfl
  ·simp
   omega
  ·simp
   simpa using ih
theorem gm_snoc42 {s:UInt8→UInt8→Bool} {p t:List UInt8}:gm s (p++[42]) t=true↔∃ k,k≤t.length∧gm s p (t.take k)=true:=by
 rw[gm_append]
 constructor
 ·rintro⟨k,h1,h2,_⟩
  exact⟨k,h1,h2⟩
 ·rintro⟨k,h1,h2⟩
  exact⟨k,h1,h2,gm_any _ _⟩
theorem gm_nil {s:UInt8→UInt8→Bool} {t:List UInt8}:gm s [] t=true↔t=[]:=by simp[gm]
theorem gm_snoc {s:UInt8→UInt8→Bool} {p t:List UInt8} {c b:UInt8} (hc:c≠42):gm s (p++[c]) (t++[b])=true↔gm s p t=true∧(c=63∨s c b=true):=by
 rw[gm_append]
 constructor
 ·rintro⟨k,h1,h2,h3⟩
  obtain⟨x,t',h4,h5,h6⟩:=(gm_one hc).1 h3
  rw[gm_nil] at h6
  subst h6
  have hk:k=t.length:=by
   have:=congrArg List.length h4
   simp only[xq,qo,qr,qx] at this h1
   omega
  subst hk
  rw[List.drop_left] at h4
  rw[List.take_left] at h2
  cases h4
  exact⟨h2,h5⟩
 ·rintro⟨h1,h2⟩
  refine⟨t.length,by simp,by rw[List.take_left]; exact h1,?_⟩
  rw[List.drop_left]
  exact (gm_one hc).2 ⟨b,[],rfl,h2,gm_nil.2 rfl⟩
theorem gm_snoc_nil {s:UInt8→UInt8→Bool} {p:List UInt8} {c:UInt8} (hc:c≠42):gm s (p++[c]) []=false:=by
 rw[Bool.eq_false_iff]
 intro h
 obtain⟨k,_,_,h3⟩:=gm_append.1 h
 obtain⟨x,t',h4,_,_⟩:=(gm_one hc).1 h3
 simp at h4
theorem gm_snoc42_snoc {s:UInt8→UInt8→Bool} {p t:List UInt8} {b:UInt8}:gm s (p++[42]) (t++[b])=true↔gm s (p++[42]) t=true∨gm s p (t++[b])=true:=by
 rw[gm_snoc42,gm_snoc42]
 constructor
 ·rintro⟨k,h1,h2⟩
  by_cases hk:k≤t.length
  ·rw[List.take_append_of_le_length hk] at h2
   exact .inl ⟨k,hk,h2⟩
  ·rw[List.take_of_length_le (by simp; omega)] at h2
   exact .inr h2
 ·rintro (⟨k,h1,h2⟩|h)
  ·exact⟨k,by simp; omega,by rw[List.take_append_of_le_length h1]; exact h2⟩
  ·exact⟨(t++[b]).length,qk _,by rw[xl]; exact h⟩
theorem gm_snoc42_nil {s:UInt8→UInt8→Bool} {p:List UInt8}:gm s (p++[42]) []=gm s p []:=by
 rw[Bool.eq_iff_iff,gm_snoc42]
 constructor
 ·rintro⟨k,_,h⟩
  simpa using h
 ·exact fun h=>⟨0,by simp,by simpa using h⟩
end
section
set_option linter.unusedSectionVars false
variable [Mx]
open Go Go.Proofs
theorem countB_eq (c:UInt8):∀ (bs:List UInt8) (n:Int),bs.foldl (fun (n:Int) x=>if x == c then n+1 else n) n=n+bs.count c
 | [],n=>by simp
 | b :: bs,n=>by
  rw[List.foldl_cons,countB_eq c bs,List.count_cons]
  by_cases h:b=c
  ·subst h; simp; omega
  ·simp[h]
theorem ext_count {s:List UInt8} {c:UInt8} {hp:HP} {x:AV} {n:Nat} (hx:srcA hp 1 x=some (encB.cs s,n)):AExt qi 108 [x,.int .u8 c.toNat] hp fun r hp'=>r=.int .i64 (s.count c)∧hp'=hp:=by
 have hc:countE hp [x,.int .u8 c.toNat]=some (.int .i64 (s.count c),hp,hp.length):=by
  simp only[countE,hx,unbyte_encB]
  rw[show (c.toNat:Int).toNat.toUInt8=c by simp,countB,countB_eq]
  simp
 exact count_extA (fn:=Tryz.f108) (by kernel_rfl) (by kernel_rfl) (by kernel_rfl) (by kernel_rfl) (by kernel_rfl) hc
theorem pCount (s:List UInt8) (c:UInt8):PCF qi 84 [encB.S s,.fsl [.int .u8 c.toNat] 1] (.int .i64 (s.count c)):=by
 refine pcf_e hmG (TabOk.none _) comp84 (by decide) (by simp) (nidL_ok (by simp only[nidL,Enc.S_nid]; rfl)) ?_
 repeat' (first|refine vcE.seq ?_|refine vcE.block ?_|(refine vcE.condTrue ?_ ?_; first|rfl|(simp (disch:=first|assumption|omega) only[go_sem,↓reduceIte]<;>rfl))|(refine vcE.condFalse ?_ ?_; first|rfl|(simp (disch:=first|assumption|omega) only[go_sem,↓reduceIte,qa,reduceCtorEq,qs,qu]<;>rfl))|(refine vcE.condND _ rfl (fun hc=>?_) (fun hc=>?_)<;>try (exfalso; first|omega|contradiction))|(refine vcE.condD _ rfl (fun hc=>?_) (fun hc=>?_)<;>try (exfalso; first|omega|contradiction))|(refine vcE.condNB _ rfl (fun hc=>?_) (fun hc=>?_)<;>try (exfalso; first|omega|contradiction))|(refine vcE.condB _ rfl (fun hc=>?_) (fun hc=>?_)<;>try (exfalso; first|omega|contradiction))|(apply vcE.ex; (simp (disch:=first|assumption|omega) only[go_sem,↓reduceIte,qa,reduceCtorEq]<;>rfl))|fail)
 rw[show r84_4=r84_4.take 4++((r84_4.drop 4).take 1++r84_4.drop 5) from rfl]
 refine vcE.app (vcE.ex (by simp (disch:=omega) only[go_sem,↓reduceIte,qa,reduceCtorEq,iaddrA,List.take]; rfl) ⟨rfl,vcE.app (vcE.ext (f:=108) (caps:=[]) (ys:=[encB.S s,.int .u8 c.toNat]) rfl rfl (ext_count (s:=s) (c:=c) (n:=s.length) (by exact encB.S_src _ s)) ?_)⟩)
 rintro r hp' ⟨rfl,rfl⟩
 refine⟨rfl,?_⟩
 repeat' (first|refine vcE.seq ?_|refine vcE.block ?_|(refine vcE.condTrue ?_ ?_; first|rfl|(simp (disch:=first|assumption|omega) only[go_sem,↓reduceIte,qa,reduceCtorEq,qs,qu]<;>rfl))|(refine vcE.condFalse ?_ ?_; first|rfl|(simp (disch:=first|assumption|omega) only[go_sem,↓reduceIte,qa,reduceCtorEq,qs,qu]<;>rfl))|(refine vcE.condND _ rfl (fun hc=>?_) (fun hc=>?_)<;>try (exfalso; first|omega|contradiction))|(refine vcE.condD _ rfl (fun hc=>?_) (fun hc=>?_)<;>try (exfalso; first|omega|contradiction))|(refine vcE.condNB _ rfl (fun hc=>?_) (fun hc=>?_)<;>try (exfalso; first|omega|contradiction))|(refine vcE.condB _ rfl (fun hc=>?_) (fun hc=>?_)<;>try (exfalso; first|omega|contradiction))|(apply vcE.ex; (simp (disch:=first|assumption|omega) only[go_sem,↓reduceIte]<;>rfl))|fail)
 exact⟨_,rfl,rfl⟩
def G1:Tab:=((G0.addR 28 (.cons .str .nil) fun p=>.rd true (.int .i64 (checkG p.1))).addO 84 (.cons (.S encB) (.cons (.S encB) .nil)) fun p=>match p.2.1 with
 | [c]=>some (.rd true (.int .i64 (p.1.count c)))
 | _=>none).addO 85 (.cons (.S encB) (.cons .i64 .nil)) fun p=>if p.1=[63]∧0≤p.2.1∧p.2.1≤300 then some (.rd true (encB.S (List.replicate p.2.1.toNat 63))) else none
theorem encB_rep (n:Nat):encB.S (List.replicate n 63)=.fsl (List.replicate n (.int .u8 63)) n:=by
 simp only[Enc.S,encB_cs,List.map_replicate,xD]
 rfl
theorem G1_ok:TabOk qi G1:=by
 refine xp (xp (TabOk.addR G0_ok ?_) ?_) ?_
 ·exact fun p=>pCheck p.1
 ·intro p r h
  split at h
  ·rename_i c hc
   cases h
   have:=pCount p.1 c
   show PCF _ _ [encB.S p.1,encB.S p.2.1] _
   rw[hc]
   exact this
  ·cases h
 ·intro p r h
  split at h
  ·rename_i hc
   obtain⟨h1,h2,h3⟩:=hc
   cases h
   show PCF _ _ [encB.S p.1,.int .i64 p.2.1] _
   rw[h1,encB_rep]
   have:=pRepeat p.2.1.toNat (by omega)
   rw[Int.toNat_of_nonneg h2] at this
   exact this
  ·cases h
theorem G1_check (p:List UInt8):G1 28 [.str p]=some (.rd true (.int .i64 (checkG p))):=by
 rw[G1,qS _ _ _ _ rfl,qS _ _ _ _ rfl]
 exact Tab.addR_self _ _ (.cons .str .nil) _ (p,())
theorem G1_count (s:List UInt8) (c:UInt8):G1 84 [encB.S s,encB.S [c]]=some (.rd true (.int .i64 (s.count c))):=by
 rw[G1,qS _ _ _ _ rfl]
 exact xe _ _ (.cons (.S encB) (.cons (.S encB) .nil)) _ (s,[c],())
theorem G1_repeat (n:Nat) (h:n≤300):G1 85 [encB.S [63],.int .i64 n]=some (.rd true (encB.S (List.replicate n 63))):=by
 rw[G1]
 refine (xe _ _ (.cons (.S encB) (.cons .i64 .nil)) _ ([63],(n:Int),())).trans ?_
 show (if ([63]:List UInt8)=[63]∧(0:Int)≤n∧(n:Int)≤300 then _ else _)=_
 rw[if_pos ⟨rfl,by omega,by omega⟩]
 simp
def wildB (c:UInt8):Prop:=c=42∨c=63
theorem run_loop {p:List UInt8} (hl:p.length≤4611686018427387904) {i:Nat} (hi:i<p.length) {tm:Env} {hp:HP} {n:Nat} (e0:tm 0=.str p) (e5:tm 5=.int .i64 i) (hint:Nat→Nat):vcE qi hint G1 n (IC.block 2 (IC.loop b57_0)) tm hp fun e tm' hp'=>e=.normal∧hp'=hp∧tm' 0=tm 0∧tm' 3=tm 3∧tm' 4=tm 4∧∃ r:Nat,tm' 5=.int .i64 r∧i≤r∧r≤p.length∧(∀ k c,i≤k→k<r→p[k]? = some c→wildB c)∧∀ c,p[r]? = some c→¬ wildB c:=by
 refine vcE.block (vcE.loop (by intro l tm hp h; simp at h) (fun m tm' hp'=>hp'=hp∧tm' 0=tm 0∧tm' 3=tm 3∧tm' 4=tm 4∧∃ r:Nat,tm' 5=.int .i64 r∧i≤r∧r≤p.length∧(∀ k c,i≤k→k<r→p[k]? = some c→wildB c)∧m=p.length - r) (p.length - i) ⟨rfl,rfl,rfl,rfl,i,e5,qk _,by omega,fun k c h1 h2=>by omega,rfl⟩ ?_)
 rintro m tm' hp' ⟨rfl,h0,h3,h4,r,h5,hir,hrl,hw,rfl⟩
 rw[e0] at h0
 by_cases hr:r<p.length
 ·obtain⟨c,hc⟩:∃ c,p[r]? = some c:=⟨_,qg hr⟩
  have hstep:wildB c→∀ k d,i≤k→k<r+1→p[k]? = some d→wildB d:=fun hwc k d k1 k2 hd=>by
   by_cases hk:k=r
   ·subst hk
    rw[hc] at hd
    cases hd
    exact hwc
   ·exact hw k d k1 (by omega) hd
  by_cases h42:c.toNat=42
  ·refine vcE.ex (by simp (disch:=omega) only[go_sem,↓reduceIte,qa,reduceCtorEq,h0,h5,hc,h42]; rfl) ?_
   refine⟨_,by omega,rfl,?_,?_,?_,r+1,?_,by omega,hr,hstep (.inl (UInt8.toNat_inj.1 h42)),rfl⟩
   all_goals simp only[upd_app,qa,↓reduceIte,h0,h3,h4,e0]
   all_goals rfl
  ·by_cases h63:c.toNat=63
   ·refine vcE.ex (by simp (disch:=omega) only[go_sem,↓reduceIte,qa,reduceCtorEq,h0,h5,hc,h63]; rfl) ?_
    refine⟨_,by omega,rfl,?_,?_,?_,r+1,?_,by omega,hr,hstep (.inr (UInt8.toNat_inj.1 h63)),rfl⟩
    all_goals simp only[upd_app,qa,↓reduceIte,h0,h3,h4,e0]
    all_goals rfl
   ·refine vcE.ex (by simp (disch:=omega) only[go_sem,↓reduceIte,qa,reduceCtorEq,h0,h5,hc]; rfl) ?_
    refine⟨rfl,rfl,?_,?_,?_,r,?_,hir,hrl,hw,?_⟩
    all_goals try simp only[upd_app,qa,↓reduceIte,h0,h3,h4,h5,e0]
    rintro d hd (h|h)
    ·rw[hc] at hd; cases hd; exact h42 (by rw[h]; rfl)
    ·rw[hc] at hd; cases hd; exact h63 (by rw[h]; rfl)
 ·refine vcE.ex (by simp (disch:=omega) only[go_sem,↓reduceIte,qa,reduceCtorEq,h0,h5]; rfl) ?_
  refine⟨rfl,rfl,?_,?_,?_,r,?_,hir,hrl,hw,fun d hd=>?_⟩
  all_goals try simp only[upd_app,qa,↓reduceIte,h0,h3,h4,h5,e0]
  rw[List.getElem?_eq_none (by omega)] at hd
  cases hd
end
section
set_option linter.unusedSectionVars false
variable [Mx]
open Go Go.Proofs
theorem take_wild {p:List UInt8} {i r:Nat} (h:∀ k c,i≤k→k<r→p[k]? = some c→wildB c):∀ c ∈ (p.drop i).take (r - i),c=42∨c=63:=by
 intro c hc
 obtain⟨k,hk,he⟩:=List.mem_iff_getElem.1 hc
 simp only[xd,xq] at hk
 rw[List.getElem_take,List.getElem_drop] at he
 exact h (i+k) c (by omega) (by omega) (by rw[← he]; exact qg (by omega))
theorem drop_split {p:List UInt8} {i r:Nat} (h1:i≤r):p.drop i=(p.drop i).take (r - i)++p.drop r:=by
 conv=>lhs; rw[← xE (r - i) (p.drop i)]
 rw[List.drop_drop,show i+(r - i)=r by omega]
theorem rest_plain {p:List UInt8} {r:Nat} (h:∀ c,p[r]? = some c→¬ wildB c):p.drop r=[]∨∃ c q,p.drop r=c :: q∧c≠42∧c≠63:=by
 cases hc:p[r]? with
 | none=>exact .inl (List.drop_eq_nil_iff.2 (zm.1 hc))
 | some c =>
  have:=h c hc
  exact .inr ⟨c,_,drop_at hc,fun e=>this (.inl e),fun e=>this (.inr e)⟩
theorem norm_run {p:List UInt8} {i r:Nat} (h1:i≤r) (hw:∀ k c,i≤k→k<r→p[k]? = some c→wildB c) (he:∀ c,p[r]? = some c→¬ wildB c) :
  normS false (p.drop i)=List.replicate (((p.drop i).take (r - i)).count 63) 63++((if ((p.drop i).take (r - i)).count 63<((p.drop i).take (r - i)).length then [42] else [])++normS false (p.drop r)):=by
 have hwt:=take_wild hw
 conv=>lhs; rw[drop_split h1]
 rw[normS_wild _ _ _ hwt,normS_end _ _ (rest_plain he),xZ]
 congr 2
 by_cases h42:42 ∈ (p.drop i).take (r - i)
 ·rw[decide_eq_true h42,if_pos rfl,if_pos ((count_wild hwt).2 h42)]
 ·rw[decide_eq_false h42,if_neg (by simp),if_neg (fun h=>h42 ((count_wild hwt).1 h))]
def NI (p:List UInt8) (i:Nat) (tm:Env) (hp:HP):Prop:=
 ∃ id O,tm 0=.str p∧tm 3=bld id O.length 1∧tm 4=.int .i64 i∧BldAt encB hp id 5 O∧O++normS false (p.drop i)=normB p∧i≤p.length
theorem src_one {hp:HP} {e:TypeId} {c:UInt8} {ex:Bool}:srcA (hp++[some (.row e [.int .u8 c.toNat])]) 1 (.sl hp.length 0 1 1 1 ex)=some (encB.cs [c],1):=by
 have:=encB.sl_src (hp:=hp++[some (.row e [.int .u8 c.toNat])]) (id:=hp.length) (e:=e) (l:=[c]) (lo:=1) (ex:=ex) (by simp; rfl)
 exact this
theorem frz_one {hp:HP} {e:TypeId} {c:UInt8} {ex:Bool}:frz (hp++[some (.row e [.int .u8 c.toNat])]) (.sl hp.length 0 1 1 1 ex)=some (encB.S [c]):=by
 have:=encB.sl_frz (hp:=hp++[some (.row e [.int .u8 c.toNat])]) (id:=hp.length) (e:=e) (l:=[c]) (lo:=1) (ex:=ex) (by simp; rfl)
 exact this
theorem conv_one {hp:HP} {e:TypeId} {cs:List AV} {n lo:Nat} {ex:Bool}:convA (hp++[some (.row e cs)]) (.sl hp.length 0 n 1 lo ex)=some (.sl hp.length 0 n 1 lo ex):=by
 simp[convA]
theorem frz_row {hp:HP} {e:TypeId} {w:List UInt8} {new:HP}:frz (hp++[some (.row e (encB.cs w))]++new) (.sl hp.length 0 w.length 1 w.length false)=some (encB.S w):=
 encB.sl_frz (e:=e) (l:=w) (app_get (by simp))
theorem sslice_str {p:List UInt8} {i r:Nat} (h1:i≤r) (h2:r≤p.length):sliceA 0 (.str p) (some (.int .i64 i)) (some (.int .i64 r)) none=some (.str ((p.drop i).take (r - i))):=by
 have e1:(i:Int).toNat=i:=rfl
 simp[sliceA,bndA,cutA]
 omega
theorem BldAt.any {α:Type} {E:Enc α} {hp:HP} {id:Nat} {e:TypeId} {l m:List α} (h:BldAt E hp id e l) {bytes:Nat} {x:AV} (hx:srcA hp E.sz x=some (E.cs m,m.length)) (hb:(l.length+m.length)*bytes≤140737488355328) (hn:l.length+m.length≤9223372036854775807) :
  ∃ id' hp',appA e E.sz bytes hp (bld id l.length E.sz) x=some (bld id' (l++m).length E.sz,hp')∧BldAt E hp' id' e (l++m):=by
 by_cases h0:0<m.length
 ·exact⟨_,_,h.more hx h0 hb hn,BldAt.moreAt E _ _ _ _ _⟩
 ·have:=List.eq_nil_of_length_eq_zero (show m.length=0 by omega)
  subst this
  rw[qt]
  exact⟨id,hp,app_none hx,h⟩
theorem norm_round {p:List UInt8} (hl:p.length≤300) {i:Nat} {tm:Env} {hp:HP} (h:NI p i tm hp) (hint:Nat→Nat) {n:Nat} (hi:i<p.length):vcE qi hint G1 n b57_1 tm hp fun e tm' hp'=>e=.normal∧∃ k,i<k∧NI p k tm' hp':=by
 obtain⟨id,O,e0,e3,e4,hb,hO,hip⟩:=h
 have hOl:O.length≤300:=by
  have:=congrArg List.length hO
  have:=normB_len p
  simp only[qo] at *
  omega
 refine vcE.step (by simp (disch:=omega) only[go_sem,↓reduceIte,qa,reduceCtorEq,e0,e4]; rfl) (vcE.block (vcE.step (by simp (disch:=omega) only[go_sem,↓reduceIte,qa,e4]; rfl) (vcE.then _ (run_loop (by omega) hi (p:=p) (i:=i) (by simp only[upd_app,qa,↓reduceIte,e0]) (by simp only[upd_app,↓reduceIte]) hint) ?_)))
 rintro e tm' hp' ⟨rfl,rfl,h0,h3,h4,r,h5,hir,hrl,hw,he⟩
 simp only[upd_app,qa,↓reduceIte,e0,e3,e4] at h0 h3 h4
 by_cases hr:r=i
 ·subst hr
  obtain⟨c,hc⟩:∃ c,p[r]? = some c:=⟨_,qg hi⟩
  have happ:=(hb.app [some (.row 5 [.int .u8 c.toNat])]).more (bytes:=1) (m:=[c]) (src_one (ex:=true)) (by simp) (by simp; omega) (by simp; omega)
  simp only[show encB.sz=1 from rfl] at happ
  have hn:O++[c]++normS false (p.drop (r+1))=normB p:=by
   rw[← hO,drop_at hc,normS_plain (fun e=>he c hc (.inl e)) (fun e=>he c hc (.inr e))]
   simp
  refine vcE.ex (by simp (disch:=omega) only[go_sem,↓reduceIte,qa,reduceCtorEq,h0,h3,h4,h5,hc,happ]; rfl) ?_
  refine⟨rfl,r+1,by omega,_,O++[c],?_,?_,?_,BldAt.moreAt encB _ _ _ _ _,hn,hi⟩
  all_goals simp only[upd_app,qa,↓reduceIte,h0]
  all_goals rfl
 ·have hlt:i<r:=by omega
  have hwl:((p.drop i).take (r - i)).length=r - i:=by rw[xd,xq]; omega
  have hsl:=sslice_str hir hrl
  have hrun:=norm_run hir hw he
  generalize hW:(p.drop i).take (r - i)=w at *
  have hcnt:w.count 63≤w.length:=List.count_le_length
  have hO':O++List.replicate (w.count 63) 63++((if w.count 63<w.length then [42] else [])++normS false (p.drop r))=normB p:=by
   rw[← hO,hrun]
   simp only[qV]
  have hOl':O.length+w.count 63≤300:=by
   have:=congrArg List.length hO'
   have:=normB_len p
   simp only[qo,xD] at *
   omega
  have hOl2:w.count 63<w.length→O.length+w.count 63+1≤300:=fun hc=>by
   have:=congrArg List.length hO'
   have:=normB_len p
   simp only[qo,xD,if_pos hc,qr,qx] at *
   omega
  have hrep:=G1_repeat (w.count 63) (by omega)
  have hcount:=G1_count w 63
  have c63:AV.int .u8 63=.int .u8 (63:UInt8).toNat:=rfl
  refine vcE.step (by simp (disch:=omega) only[go_sem,↓reduceIte,qa,h4,h5]; rfl) ?_
  refine vcE.step (by simp (disch:=omega) only[go_sem,↓reduceIte,reduceCtorEq,h0,qa,h4,h5,hsl,s2b_encB,c63,conv_one,frzL.eq_2,↓frz_row,↓frz_one,hcount,nidL.eq_2]; rfl) ?_
  obtain⟨id2,hp2,hap,hb2⟩:=((hb.app [some (.row 5 (encB.cs w))]).app [some (.row 5 [.int .u8 (63:UInt8).toNat])] |>.app [some (.row 5 [.int .u8 (63:UInt8).toNat])]).any (bytes:=1) (m:=List.replicate (w.count 63) 63) (x:=encB.S (List.replicate (w.count 63) 63)) (encB.S_src _ _) (by simp; omega) (by simp; omega)
  simp only[show encB.sz=1 from rfl] at hap
  refine vcE.step (by simp (disch:=omega) only[go_sem,↓reduceIte,qa,h3,c63,conv_one,frzL.eq_2,↓frz_one,hrep,nidL.eq_2,hap]; rfl) ?_
  refine vcE.seq (vcE.seq (vcE.ex (by simp (disch:=omega) only[go_sem,↓reduceIte,qa,h4,h5]; rfl) ?_))
  refine vcE.condD (w.count 63<w.length) ?_ (fun hc=>?_) (fun hc=>?_)
  ·simp only[evE,upd_app,↓reduceIte,hwl]
   congr 2
   exact propext (by omega)
  ·have hap2:=(hb2.app [some (.row 5 [.int .u8 (42:UInt8).toNat])]).more (bytes:=1) (m:=[42]) (src_one (ex:=true)) (by simp) (by simp; omega) (by simp; omega)
   simp only[show encB.sz=1 from rfl] at hap2
   have c42:AV.int .u8 42=.int .u8 (42:UInt8).toNat:=rfl
   refine vcE.ex (by simp (disch:=omega) only[go_sem,↓reduceIte,qa,c42,hap2]; rfl) ?_
   refine vcE.ex (by simp (disch:=omega) only[go_sem,↓reduceIte,qa,h5]; rfl) ?_
   refine⟨rfl,r,hlt,_,_,?_,?_,?_,BldAt.moreAt encB _ _ _ _ _,?_,hrl⟩
   ·simp only[upd_app,qa,↓reduceIte,h0]
   ·simp only[upd_app,qa,↓reduceIte]
   ·simp only[upd_app,↓reduceIte]
   ·rw[← hO',if_pos hc]
    simp only[qV]
  ·refine vcE.e0 ?_
   refine vcE.ex (by simp (disch:=omega) only[go_sem,↓reduceIte,qa,h5]; rfl) ?_
   refine⟨rfl,r,hlt,id2,_,?_,?_,?_,hb2,?_,hrl⟩
   ·simp only[upd_app,qa,↓reduceIte,h0]
   ·simp only[upd_app,qa,↓reduceIte]
   ·simp only[upd_app,↓reduceIte]
   ·rw[← hO',if_neg hc]
    simp only[qz]
theorem pNorm (p:List UInt8) (hl:p.length≤300):PCF qi 57 [.str p] (.str (normB p)):=by
 refine pcf_e hmG G1_ok comp57 (by decide) (by simp) (nidL_ok rfl) ?_
 refine vcE.s1 (k:=vcE.s1 (k:=vcE.then (fun e tm hp=>e=.normal∧∃ id,tm 3=bld id (normB p).length 1∧BldAt encB hp id 5 (normB p)) ?_ ?_))
 ·refine vcE.s1 (k:=vcE.block (vcE.loop (by intro l tm hp h; simp at h) (fun m tm hp => ∃ i,NI p i tm hp∧m=p.length - i) p.length ⟨0,⟨0,[],rfl,rfl,rfl,BldAt.nil _ _ _ _,rfl,Nat.zero_le _⟩,rfl⟩ ?_))
  rintro m tm hp ⟨i,hN,rfl⟩
  by_cases hi:i<p.length
  ·refine (norm_round hl hN _ hi).mono ?_
   rintro e tm' hp' ⟨rfl,k,hk,hN'⟩
   refine⟨p.length - k,?_,k,hN',rfl⟩
   have:=hN'.choose_spec.choose_spec.2.2.2.2.2
   omega
  ·obtain⟨id,O,e0,e3,e4,hb,hO,hip⟩:=hN
   obtain rfl:i=p.length:=by omega
   rw[List.drop_length] at hO
   simp only[normS,qA,if_false,qt] at hO
   subst hO
   refine vcE.ex (by simp (disch:=omega) only[go_sem,↓reduceIte,qa,reduceCtorEq,e0,e4]; rfl) ?_
   refine⟨rfl,id,?_,hb⟩
   simp only[upd_app,qa,↓reduceIte,e3]
 ·rintro e tm hp ⟨rfl,id,h3,hb⟩
  have hs:=hb.src
  have hb2:b2sA hp (bld id (normB p).length 1)=some (.str (normB p)):=by
   unfold b2sA
   rw[show (1:Nat)=encB.sz from rfl,hs]
   simp only[unbyte_encB,Option.map_some]
   by_cases h0:(normB p).length=0
   ·rw[h0]; rfl
   ·rw[bld_pos (by omega)]
  refine vcE.ex (by simp only[go_sem,↓reduceIte,h3,hb2]; rfl) ?_
  exact⟨_,rfl,rfl⟩
end
section
abbrev isStar (p:List UInt8) (i:Nat):Bool:=decide (p[i]? = some 42)
def clo (p:List UInt8) (b:Nat→Bool):Nat→Bool
 | 0=>b 0
 | j+1=>b (j+1) || (clo p b j && isStar p j)
def takes (s:UInt8→UInt8→Bool) (p:List UInt8) (i:Nat) (c:UInt8):Bool:=match p[i]? with
 | some a=>a != 42 && (a == 63 || s a c)
 | none=>false
def leads (s:UInt8→UInt8→Bool) (p:List UInt8) (r:Nat→Bool) (c:UInt8):Nat→Bool
 | 0=>r 0 && isStar p 0
 | j+1=>(r (j+1) && isStar p (j+1)) || (r j && takes s p j c)
def stepS (s:UInt8→UInt8→Bool) (p:List UInt8) (r:Nat→Bool) (c:UInt8):Nat→Bool:=clo p (leads s p r c)
def startS (p:List UInt8):Nat→Bool:=clo p fun j=>decide (j=0)
def atS (s:UInt8→UInt8→Bool) (p t:List UInt8) (i:Nat):Bool:=if isStar p i then gm s (p.take (i+1)) t else gm s (p.take i) t
def runS (s:UInt8→UInt8→Bool) (p:List UInt8):List UInt8→(Nat→Bool)→(Nat→Bool)
 | [],r=>r
 | c :: t,r=>runS s p t (stepS s p r c)
theorem clo_congr {p:List UInt8} {b b':Nat→Bool}:∀ {j:Nat},(∀ i,i≤j→b i=b' i)→clo p b j=clo p b' j
 | 0,h=>h 0 (qk _)
 | j+1,h=>by
  simp only[clo]
  rw[h (j+1) (qk _),clo_congr fun i hi=>h i (by omega)]
theorem leads_congr {s:UInt8→UInt8→Bool} {p:List UInt8} {r r':Nat→Bool} {c:UInt8} {j:Nat} (h:∀ i,i≤j→r i=r' i):leads s p r c j=leads s p r' c j:=by
 cases j with
 | zero=>simp only[leads,h 0 (qk _)]
 | succ j=>simp only[leads,h (j+1) (qk _),h j (by omega)]
theorem stepS_congr {s:UInt8→UInt8→Bool} {p:List UInt8} {r r':Nat→Bool} {c:UInt8} {j:Nat} (h:∀ i,i≤j→r i=r' i):stepS s p r c j=stepS s p r' c j:=
 clo_congr fun i hi=>leads_congr fun k hk=>h k (by omega)
theorem clo_iff {p:List UInt8} {b:Nat→Bool}:∀ {j:Nat},clo p b j=true↔∃ i,i≤j∧b i=true∧∀ m,i≤m→m<j→p[m]? = some 42
 | 0=>by
  simp only[clo]
  constructor
  ·exact fun h=>⟨0,qk _,h,fun m _ h2=>by omega⟩
  ·rintro⟨i,h1,h2,_⟩
   obtain rfl:i=0:=by omega
   exact h2
 | j+1=>by
  simp only[clo,xO,qp,clo_iff (j:=j),isStar,decide_eq_true_eq]
  constructor
  ·rintro (h|⟨⟨i,h1,h2,h3⟩,h4⟩)
   ·exact⟨j+1,qk _,h,fun m h5 h6=>by omega⟩
   ·refine⟨i,by omega,h2,fun m h5 h6=>?_⟩
    by_cases hm:m=j
    ·subst hm; exact h4
    ·exact h3 m h5 (by omega)
  ·rintro⟨i,h1,h2,h3⟩
   by_cases hi:i=j+1
   ·subst hi; exact .inl h2
   ·exact .inr ⟨⟨i,by omega,h2,fun m h5 h6=>h3 m h5 (by omega)⟩,h3 j (by omega) (by omega)⟩
theorem take_succ_some {p:List UInt8} {i:Nat} {a:UInt8} (h:p[i]? = some a):p.take (i+1)=p.take i++[a]:=by
 rw[List.take_add_one,h]
 rfl
theorem start_at {s:UInt8→UInt8→Bool} {p:List UInt8}:∀ {i:Nat},i≤p.length→startS p i=atS s p [] i
 | 0,_=>by
  simp only[startS,clo,decide_true]
  unfold atS
  by_cases h:isStar p 0=true
  ·rw[if_pos h]
   simp only[isStar,decide_eq_true_eq] at h
   rw[take_succ_some h]
   rw[gm_snoc42_nil]
   rfl
  ·rw[if_neg h]
   rfl
 | i+1,hi=>by
  have ih:=start_at (s:=s) (p:=p) (i:=i) (by omega)
  unfold startS at ih ⊢
  simp only[clo]
  rw[decide_eq_false (by omega),xZ,ih]
  have hlt:i<p.length:=by omega
  obtain⟨a,ha⟩:∃ a,p[i]? = some a:=⟨_,qg hlt⟩
  have e:gm s (p.take (i+1)) []=(gm s (p.take (i+1)) [] && isStar p i):=by
   by_cases h42:a=42
   ·subst h42
    simp[isStar,ha]
   ·rw[take_succ_some ha,gm_snoc_nil h42]
    rfl
  have e2:(atS s p [] i && isStar p i)=gm s (p.take (i+1)) []:=by
   rw[e]
   unfold atS
   by_cases h:isStar p i=true
   ·rw[if_pos h]
   ·simp[Bool.eq_false_iff.2 h]
  rw[e2]
  unfold atS
  by_cases h:isStar p (i+1)=true
  ·rw[if_pos h]
   simp only[isStar,decide_eq_true_eq] at h
   rw[take_succ_some h,gm_snoc42_nil]
  ·rw[if_neg h]
theorem step_at {s:UInt8→UInt8→Bool} {p t:List UInt8} {c:UInt8} {r:Nat→Bool} (hr:∀ i,i≤p.length→r i=atS s p t i):∀ {j:Nat},j≤p.length→stepS s p r c j=atS s p (t++[c]) j
 | 0,_=>by
  simp only[stepS,clo,leads,hr 0 (Nat.zero_le _)]
  unfold atS
  by_cases h:isStar p 0=true
  ·rw[if_pos h,if_pos h,h]
   simp only[isStar,decide_eq_true_eq] at h
   rw[take_succ_some h]
   simp only[xi,qz,xP]
   rw[(gm_any s t:gm s [42] t=true),(gm_any s (t++[c]):gm s [42] _=true)]
  ·rw[if_neg h,if_neg h,Bool.eq_false_iff.2 h,zf]
   symm
   rw[Bool.eq_false_iff]
   intro hg
   rw[xi,gm_nil] at hg
   simp at hg
 | j+1,hj=>by
  have ih:=step_at (c:=c) hr (j:=j) (by omega)
  have hlt:j<p.length:=by omega
  obtain⟨a,ha⟩:∃ a,p[j]? = some a:=⟨_,qg hlt⟩
  have h1:stepS s p r c (j+1)=(leads s p r c (j+1) || (stepS s p r c j && isStar p j)):=rfl
  rw[h1,ih]
  simp only[leads,hr (j+1) hj,hr j (by omega)]
  -- what is behind place j+1 without going on
  have key:((atS s p t j && takes s p j c) || (atS s p (t++[c]) j && isStar p j))=gm s (p.take (j+1)) (t++[c]):=by
   by_cases h42:a=42
   ·subst h42
    have hs:isStar p j=true:=by simp[isStar,ha]
    have ht:takes s p j c=false:=by simp[takes,ha]
    rw[ht,hs,zf,xZ,xP]
    unfold atS
    rw[if_pos hs]
   ·have hs:isStar p j=false:=by simp[isStar,ha,h42]
    rw[hs,zf,Bool.or_false,take_succ_some ha]
    have:atS s p t j=gm s (p.take j) t:=by
     unfold atS
     rw[hs]
     rfl
    rw[this,Bool.eq_iff_iff,gm_snoc h42,qp]
    simp only[takes,ha,qp,bne_iff_ne,ne_eq,h42,not_false_eq_true,true_and,xO,beq_iff_eq]
  rw[Bool.or_assoc,key]
  by_cases h:isStar p (j+1)=true
  ·unfold atS
   rw[if_pos h,if_pos h,h,xP]
   simp only[isStar,decide_eq_true_eq] at h
   rw[take_succ_some h,Bool.eq_iff_iff,xO,gm_snoc42_snoc]
  ·unfold atS
   rw[if_neg h,if_neg h,Bool.eq_false_iff.2 h,zf,xZ]
theorem run_at {s:UInt8→UInt8→Bool} {p:List UInt8}:∀ (u:List UInt8) {t:List UInt8} {r:Nat→Bool},(∀ i,i≤p.length→r i=atS s p t i)→∀ i,i≤p.length→runS s p u r i=atS s p (t++u) i
 | [],t,r,hr,i,hi=>by rw[qt]; exact hr i hi
 | c :: u,t,r,hr,i,hi=>by
  have:=run_at u (t:=t++[c]) (r:=stepS s p r c) (fun j hj=>step_at hr hj) i hi
  rw[qV] at this
  exact this
theorem at_end {s:UInt8→UInt8→Bool} (p t:List UInt8):atS s p t p.length=gm s p t:=by
 unfold atS
 rw[if_neg (by simp[isStar]),xl]
end
section
set_option linter.unusedSectionVars false
variable [Mx]
open Go
theorem AW.rangeK {P:Program} {f:Operand} {o:Opd} (ho:opdP f=some o) {key:Nat} {ps:Array Tmp} {assign body:Code} (hk:lcP P key=⟨ps,assign,body⟩) {st:St} {fv:AV} (hv:o.ev st.tm=fv) {K:AV→HP→Prop}
  (hcall:RCall P fv st.hp.length (st.hp++[some (.loop st.tm key .ready none)]) K)
  {Q:Exit→St→Prop} (hK:∀ r hp2,K r hp2→∃ tms' key' ls pend,hp2[st.hp.length]? = some (some (.loop tms' key' ls pend))∧ls≠.busy∧match (pend:Option (Option Nat)) with
   | none=>Q .normal ⟨st.tm,hp2.set st.hp.length (some (.loop tms' key' .exhausted pend))⟩
   | some none=>Q .ret ⟨st.tm,hp2.set st.hp.length (some (.loop tms' key' .exhausted pend))⟩
   | some (some i)=>Q (.exit i) ⟨st.tm,hp2.set st.hp.length (some (.loop tms' key' .exhausted pend))⟩):AW P (.rangeFunc f ps assign body) st Q:=by
 intro q Γ a hp hs hl
 have hq0:q=none:=hp.resolve_right (by simp[plainC])
 subst hq0
 show (Code.rangeFunc f ps assign body).wpIn Fence.wide 0 P _ a Γ.w
 refine wpIn_rangeFunc ?_
 intro fn _
 -- the two new blocks
 obtain⟨hA,eA⟩:=hs.hp.newOther (.deferred (some []))
 let Γ1:Cx:=Γ.alloc (.deferred (some []))
 let obj:Obj:=.loop { state:=.ready,pending:=none,fn:=fn,tmps:=a.tmps,params:=ps,assign:=assign,body:=body,defers:=Γ.w.heap.size }
 have hlc:Γ.lc key=⟨ps,assign,body⟩:=by rw[hl,hk]
 let Γ2:Cx:=(Γ1.alloc obj).know (Γ1.w.heap.size,0)
 have hsz:Γ1.w.heap.size=Γ.w.heap.size+1:=by simp[Γ1,Cx.alloc]
 have le12:Le Γ1 Γ2:=(Le.alloc hA.fz obj).trans (Le.know _ _)
 have hB:HSim Γ2 (st.hp++[some (.loop st.tm key .ready none)])∧Ev Γ1 st.hp Γ2 (st.hp++[some (.loop st.tm key .ready none)]):=by
  refine hA.new obj (.loop st.tm key .ready none) ?_
  simp only[BRel]
  refine⟨fn,a.tmps.toList,Γ.w.heap.size,?_,(hs.tm.le eA.le).le le12⟩
  have:(Γ2.w).heap[Γ1.w.heap.size]? = some obj:=alloc_new _ _
  have hl2:Γ2.lc key=⟨ps,assign,body⟩:=hlc
  show Γ2.w.heap[Γ1.w.heap.size]? = _
  rw[this,hl2]
  simp only[obj,pendC]
 obtain⟨hB1,eB⟩:=hB
 have eAB:Ev Γ st.hp Γ2 (st.hp++[some (.loop st.tm key .ready none)]):=eA.trans eB
 have hn:Γ1.n=st.hp.length:=hA.len.symm
 have hyld:VRel Γ2 (.yld st.hp.length) (.func (.yield (Γ.w.heap.size+1)) #[] #[]):=by
  simp only[VRel]
  refine⟨by show st.hp.length<Γ1.n+1; omega,?_⟩
  have:(Γ2.β st.hp.length).1=Γ1.w.heap.size:=by simp[Γ2,Cx.know,Cx.alloc,hn]
  rw[this,hsz]
 have hfv:VRel Γ fv (a.eval f):=by rw[← hv]; exact opd_rel hs.hp.gl hs.tm ho
 -- what the call's function is
 have hfun:∃ (g:FuncId) (xs:List AV) (first caps:List Value),a.eval f=.func (.func g) ⟨first⟩ ⟨caps⟩∧VRels Γ2 xs (first++.func (.yield (Γ.w.heap.size+1)) #[] #[] :: caps)∧ACalls P g xs (st.hp++[some (.loop st.tm key .ready none)]) K:=by
  cases fv<;>simp only[RCall] at hcall
  case func g caps =>
   simp only[VRel] at hfv
   obtain⟨vs,h1,h2⟩:=hfv
   refine⟨g,_,[],vs,h1,?_,hcall⟩
   simp only[qz,VRels]
   exact⟨_,_,rfl,hyld,h2.le eAB.le⟩
  case bound g first =>
   simp only[VRel] at hfv
   obtain⟨vs,h1,h2⟩:=hfv
   refine⟨g,_,vs,[],h1,?_,hcall⟩
   exact (h2.le eAB.le).append (by simp only[VRels]; exact⟨_,_,rfl,hyld,rfl⟩)
 obtain⟨g,xs,first,caps,hf,hxs,hac⟩:=hfun
 obtain⟨⟨gfn,hgfn,hname,hbody⟩,hc⟩:=hac
 have hw2:Γ2.w=(Γ.w.alloc (.deferred (some []))).alloc obj:=rfl
 refine⟨Γ.w.heap.size+1,[{ target:=.collected Γ.w.heap.size,args:=#[] }],Γ2.w,{ target:=.fn (.func g) ⟨caps⟩,args:=⟨first⟩ ++ #[.func (.yield (Γ.w.heap.size+1)) #[] #[]] },Γ2.w,g,⟨first++.func (.yield (Γ.w.heap.size+1)) #[] #[] :: caps⟩,Γ2.w,?_,?_,fun _ _=>trivial,?_,(by intro h; cases h),?_⟩
 ·exact run_enterLoop_outer _ _ _ _ _
 ·simp only[resolve,hf]
  simp[Deferred.ofValue,Act.eval]
 ·have hn' : ¬ gfn.name = "runtime.NumGoroutine" := by simpa using hname
  have hb':¬ gfn.body=none:=by intro hb; rw[hb] at hbody; cases hbody
  simp[invoke,callFunc,hgfn,hn',hb']
 ·refine Fw_calls none (Calls.mono (hc Γ2 _ hB1 (eAB.le.lc.trans hl) hxs) ?_)
  rintro e w' ⟨v,a2,b2,Δ,rfl,rfl,h5,h6,h7,hkk⟩
  obtain⟨tms',key',ls,pend,hb,hne,hq⟩:=hK _ _ hkk
  obtain⟨fn',vs',d',e1,e2,turn⟩:=loop_turn h6 hb
  obtain⟨hT,eT⟩:=turn .exhausted pend
  have hβ:(Δ.β st.hp.length).1=Γ.w.heap.size+1:=by
   rw[h7.le.β _ (by show st.hp.length<Γ1.n+1; omega)]
   have:(Γ2.β st.hp.length).1=Γ1.w.heap.size:=by simp[Γ2,Cx.know,Cx.alloc,hn]
   rw[this,hsz]
  have hend:=run_endLoop (P:=P) e1 hne
  rw[hβ] at hend
  refine⟨pendC pend,_,hend,?_⟩
  -- the state behind
  let o':Obj:=.loop { state:=.exhausted,pending:=pendC pend,fn:=fn',tmps:=⟨vs'⟩,params:=(Δ.lc key').params,assign:=(Δ.lc key').assign,body:=(Δ.lc key').body,defers:=d' }
  let Θ:Cx:=Δ.setB (Δ.β st.hp.length).1 o'
  have eΘ:Ev Γ st.hp Θ (b2.set st.hp.length (some (.loop tms' key' .exhausted pend))):=(eAB.trans h7).trans eT
  have hwΘ:Θ.w=Δ.w.putObj (Γ.w.heap.size+1) o':=by
   show setB Δ.w (Δ.β st.hp.length).1 o'=_
   rw[hβ]
   rfl
  have marks:MarksOk Θ (b2.set st.hp.length (some (.loop tms' key' .exhausted pend))) ({ target:=.collected Γ.w.heap.size,args:=#[] } :: a.defers):=by
   obtain⟨q0,ks,q1,q2,q3⟩:=hs.df.ev eΘ
   have old:=hs.df
   have hk0:Γ1.w.heap[Γ.w.heap.size]? = some (.deferred (some [])):=alloc_new _ _
   have hk1:MarksOk Γ1 st.hp [{ target:=.collected Γ.w.heap.size,args:=#[] }]:=by
    refine⟨Nat.le_trans hs.df.1 eA.size,[Γ.w.heap.size],rfl,by simp,fun k hk=>?_⟩
    simp only[List.mem_singleton] at hk
    subst hk
    refine⟨hk0,?_,?_,hs.df.1⟩
    ·rintro⟨i,x,hx,e⟩
     have:=(hs.hp.blk i x hx).2.2
     have e':(Γ.β i).1=Γ.w.heap.size:=e
     omega
    ·intro hf
     have:=hs.hp.fz _ hf
     omega
   obtain⟨_,ks1,p1,p2,p3⟩:=hk1.ev ((eB.trans h7).trans eT)
   have hks1:ks1=[Γ.w.heap.size]:=by
    rcases ks1 with _|⟨x,_|⟨y,l⟩⟩<;>simp at p1
    rw[← p1]
   refine⟨q0,Γ.w.heap.size :: ks,by rw[q1]; rfl,?_,?_⟩
   ·rw[List.nodup_cons]
    refine⟨fun hm=>?_,q2⟩
    obtain⟨_,ks0,o1,o2,o3⟩:=old
    have hsame:ks0=ks:=by
     have:(ks0.map fun k=>({ target:=.collected k,args:=#[] }:Deferred))=ks.map fun k=>({ target:=.collected k,args:=#[] }:Deferred):=by rw[← o1,← q1]
     exact (List.map_inj_right (fun x y hxy=>by simpa using hxy)).1 this
    subst hsame
    have:=(Array.getElem?_eq_some_iff.1 (o3 _ hm).1).1
    omega
   ·intro k hk
    rcases List.mem_cons.1 hk with rfl|hk
    ·exact p3 _ (by rw[hks1]; simp)
    ·exact q3 k hk
  have hss:SSim Θ ⟨st.tm,b2.set st.hp.length (some (.loop tms' key' .exhausted pend))⟩ { a with defers:=[{ target:=.collected Γ.w.heap.size,args:=#[] }]++a.defers }:=⟨hs.tm.le eΘ.le,hT,marks⟩
  rw[← hwΘ]
  cases pend with
  | none=>exact⟨Θ,_,rfl,hss,eΘ,hq⟩
  | some p=>cases p with
   | none=>exact wpIn_ret ⟨Θ,_,rfl,hss,eΘ,hq⟩
   | some i=>exact wpIn_exit ⟨Θ,_,rfl,hss,eΘ,hq⟩
theorem ARound.ofK {P:Program} {id:Nat} {xs:List AV} {hp:HP} {tms:List AV} {key:Nat} (hb:hp[id]? = some (some (.loop tms key .ready none))) {ps:Array Tmp} {assign body:Code} (hk:lcP P key=⟨ps,assign,body⟩) (hpl:(plainC assign && plainC body)=true) (hps:xs.length=ps.size)
  {A:List AV→HP→Prop} {K:AV→HP→Prop} (ha:AW P assign ⟨setPs tms ps.toList xs,hp⟩ fun e st'=>e=.normal∧A st'.tm st'.hp)
  (hbody:∀ tm hp1,A tm hp1→∃ tms1 key1 pd1,hp1[id]? = some (some (.loop tms1 key1 .ready pd1))∧AW P body ⟨tm,hp1.set id (some (.loop tms1 key1 .busy pd1))⟩ fun e' st' => ∃ pe tms3 key3 ls3 pd3,pendOf e'=some pe∧st'.hp[id]? = some (some (.loop tms3 key3 ls3 pd3))∧K (.bool pe.isNone) (st'.hp.set id (some (.loop tms3 key3 (if pe.isNone then .ready else .done) pe)))) :
  ARound P id xs hp K:=by
 intro q Γ vs hh hl hv hid
 simp only[qp] at hpl
 obtain⟨h1,h2,h3⟩:=hh.blk id _ hb
 simp only[BRel] at h1
 obtain⟨fn,us,d,e1,e2⟩:=h1
 have hlc:Γ.lc key=⟨ps,assign,body⟩:=by rw[hl,hk]
 rw[hlc] at e1
 have hsize:(⟨vs⟩:Array Value).size=ps.size:=by have:=hv.length; simp only[List.size_toArray]; omega
 refine⟨fn,_,assign,body,run_yield e1 hsize,?_⟩
 have hQ:(Fw q).inRound (Γ.β id).1=Fw (some (Γ.β id).1):=by cases q<;>rfl
 refine roundIn_of_wpIn (Fw_fn q fn) ?_
 rw[hQ]
 have hrel:VRels Γ (setPs tms ps.toList xs) ((ps.zip ⟨vs⟩).foldl (fun (t:Array Value) (x:Nat × Value)=>t.setIfInBounds x.1 x.2) (⟨us⟩:Array Value)).toList:=by
  have:=setPs_rel (ps:=ps.toList) e2 hv
  have key:∀ (l:List (Nat × Value)) (t:Array Value),(l.foldl (fun t (x:Nat × Value)=>t.setIfInBounds x.1 x.2) t).toList=l.foldl (fun t (x:Nat × Value)=>t.set x.1 x.2) t.toList:=by
   intro l
   induction l with
   | nil=>intro t; rfl
   | cons x l ih=>intro t; simp only[List.foldl_cons]; rw[ih]; simp
  rw[← Array.foldl_toList,key]
  have hz:(ps.zip ⟨vs⟩).toList=ps.toList.zip vs:=by simp
  rw[hz]
  exact this
 let Γ0:=Γ.from_ Γ.w.heap.size
 have hs0:SSim Γ0 ⟨setPs tms ps.toList xs,hp⟩ { tmps:=(ps.zip ⟨vs⟩).foldl (fun (t:Array Value) (x:Nat × Value)=>t.setIfInBounds x.1 x.2) (⟨us⟩:Array Value),defers:=[] }:=⟨hrel.le (Le.from_ _ _),hh.from_ _,MarksOk.nil (qk _) _⟩
 refine wpIn_mono (ha (some (Γ.β id).1) Γ0 _ (.inr hpl.1) hs0 hl) ?_
 rintro e0 a1 w1 ⟨Δ,st1,rfl,k1,k2,rfl,k3⟩
 obtain⟨tms1,key1,pd1,hb1,hbody⟩:=hbody _ _ k3
 have hβ1:Δ.β id=Γ.β id:=k2.le.β id hid
 have hh1:HSim Δ st1.hp:=k1.hp
 obtain⟨fn1,us1,d1,f1,f2,turn1⟩:=loop_turn hh1 hb1
 obtain⟨hT1,eT1⟩:=turn1 .busy pd1
 rw[hβ1] at f1
 refine⟨_,run_beginRound f1 rfl,?_⟩
 let Δ1:Cx:=Δ.setB (Δ.β id).1 (.loop { state:=.busy,pending:=pendC pd1,fn:=fn1,tmps:=⟨us1⟩,params:=(Δ.lc key1).params,assign:=(Δ.lc key1).assign,body:=(Δ.lc key1).body,defers:=d1 })
 have hw1:Δ1.w=Δ.w.putObj (Γ.β id).1 (.loop { state:=.busy,pending:=pendC pd1,fn:=fn1,tmps:=⟨us1⟩,params:=(Δ.lc key1).params,assign:=(Δ.lc key1).assign,body:=(Δ.lc key1).body,defers:=d1 }):=by
  show setB Δ.w (Δ.β id).1 _=_
  rw[hβ1]
  rfl
 have e01:Ev Γ0 hp Δ1 (st1.hp.set id (some (.loop tms1 key1 .busy pd1))):=by
  exact k2.trans eT1
 have hs1:SSim Δ1 ⟨st1.tm,st1.hp.set id (some (.loop tms1 key1 .busy pd1))⟩ a1:=⟨k1.tm.le eT1.le,hT1,k1.df.ev eT1⟩
 rw[← hw1]
 refine wpIn_mono (hbody (some (Γ.β id).1) Δ1 a1 (.inr hpl.2) hs1 (e01.le.lc.trans hl)) ?_
 rintro e' a2 w2 ⟨Θ,st2,rfl,m1,m2,pe,tms3,key3,ls3,pd3,hpe,hb3,hKK⟩
 have hh3:HSim Θ st2.hp:=m1.hp
 have m2':=m2
 have hβ3:Θ.β id=Γ.β id:=(e01.trans m2').le.β id hid
 obtain⟨fn3,us3,d3,g1,g2,turn3⟩:=loop_turn hh3 hb3
 rw[hβ3] at g1
 have fin:∀ (jump:Option Code),jump=pendC pe→(jump.isNone=pe.isNone)→∃ v w',(Instr.endRound (Γ.β id).1 jump).run P Θ.w=.ok v w'∧∃ v' r hp' Δ',Ending.returned v=.returned v'∧Δ'.w=w'∧VRel Δ' r v'∧HSim Δ' hp'∧Ev Γ hp Δ' hp'∧K r hp':=by
  rintro jump rfl hj
  obtain⟨hT3,eT3⟩:=turn3 (if pe.isNone then .ready else .done) pe
  refine⟨_,_,run_endRound (pendC pe) g1,?_⟩
  let Ψ:Cx:=Θ.setB (Θ.β id).1 (.loop { state:=if pe.isNone then .ready else .done,pending:=pendC pe,fn:=fn3,tmps:=⟨us3⟩,params:=(Θ.lc key3).params,assign:=(Θ.lc key3).assign,body:=(Θ.lc key3).body,defers:=d3 })
  have eAll:Ev Γ0 hp Ψ (st2.hp.set id (some (.loop tms3 key3 (if pe.isNone then .ready else .done) pe))):=(e01.trans m2').trans eT3
  refine⟨_,.bool pe.isNone,_,Ψ.from_ Γ.s0,rfl,?_,by simp only[VRel,hj],hT3.from_ _,eAll.from_,hKK⟩
  show setB Θ.w (Θ.β id).1 _=_
  rw[hβ3,hj]
  rfl
 cases e'<;>simp only[pendOf,Option.some.injEq,reduceCtorEq] at hpe<;>subst hpe<;>simp only[roundPost]
 ·exact fin none rfl rfl
 ·exact fin _ rfl rfl
 ·exact fin _ rfl rfl
theorem vcE.rangeF {P:Program} {hint:Nat→Nat} {T:Tab} {n:Nat} {key nt:Nat} {o:Opd} {tm:Env} {hp:HP} {Q:Exit→Env→HP→Prop} {g:FuncId} {caps:List AV} (hv:evE tm o=.func g caps)
  (h:∀ l,Is n tm l→ACalls P g (.yld hp.length :: caps) (hp++[some (.loop l key .ready none)]) fun r hp2 => ∃ tms' key' ls pend,hp2[hp.length]? = some (some (.loop tms' key' ls pend))∧ls≠.busy∧Q (exitOf pend) tm (hp2.set hp.length (some (.loop tms' key' .exhausted pend)))):vcE P hint T n (.rangeF key nt o) tm hp Q:=by
 intro _ _ hok l Q' hl hq
 simp only[okS,qp] at hok
 show RangeW P key nt o ⟨l,hp⟩ Q'
 intro f ps a b ho hk
 have hev:o.ev l=.func g caps:=by rw[hl.ev hok.2,hv]
 refine AW.rangeK ho hk (st:=⟨l,hp⟩) (fv:=.func g caps) hev (h l hl) ?_
 rintro r hp2 ⟨tms',key',ls,pend,h1,h2,h3⟩
 refine⟨tms',key',ls,pend,h1,h2,?_⟩
 rcases pend with _|_|i
 ·exact hq _ _ _ _ hl h3
 ·exact hq _ _ _ _ hl h3
 ·exact hq _ _ _ _ hl h3
theorem AW.ofE {P:Program} (hm:P.follows .mixedOrders=true) {T:Tab} (hT:TabOk P T) {hint:Nat→Nat} {c:Code} {ic:IC} (hc:compC P hint c=some ic) (hpl:plainC c=true) {n:Nat} (hok:okS n ic=true) {tm:Env} {hp:HP} {l:List AV} (hl:Is n tm l) {Q:Exit→Env→HP→Prop} (hng:∀ l tm hp,¬ Q (.goto l) tm hp) (h:Gi.vcE P hint T n ic tm hp Q) :
  AW P c ⟨l,hp⟩ fun e st' => ∃ tm',Is n tm' st'.tm∧Q e tm' st'.hp:=by
 refine vc_sound hm hc (fun x hx=>by rw[plain_keys hpl] at hx; cases hx) (by rintro l st ⟨tm',_,h1⟩; exact hng _ _ _ h1) ?_
 refine h hm hT hok l _ hl ?_
 intro e' tm' hp2 l' hl' hq
 exact⟨tm',hl',hq⟩
theorem round_e {P:Program} (hm:P.follows .mixedOrders=true) {T:Tab} (hT:TabOk P T) {key:Nat} {li:LI} (hL:LOk P key li) {id:Nat} {tms xs:List AV} {hp:HP} (hb:hp[id]? = some (some (.loop tms key .ready none))) (hps:xs.length=li.ps.length) {tm:Env} (ht:Is li.nt tm (setPs tms li.ps xs)) {K:AV→HP→Prop}
  (h:∀ hint,vcE P hint T li.nt li.a tm hp fun e tm1 hp1=>e=.normal∧∃ tms1 key1 pd1,hp1[id]? = some (some (.loop tms1 key1 .ready pd1))∧vcE P hint T li.nt li.b tm1 (hp1.set id (some (.loop tms1 key1 .busy pd1))) fun e' tm3 hp3 => ∃ pe tms3 key3 ls3 pd3,pendOf e'=some pe∧hp3[id]? = some (some (.loop tms3 key3 ls3 pd3))∧K (.bool pe.isNone) (hp3.set id (some (.loop tms3 key3 (if pe.isNone then .ready else .done) pe)))) :
  ARound P id xs hp K:=by
 obtain⟨hint,k1,k2,k3,k4,k5⟩:=hL
 have hk2:=k2
 simp only[qp] at hk2 k5
 have ha:=AW.ofE hm hT k3 hk2.1 k5.1 (l:=setPs tms li.ps xs) ht (by rintro l tm hp ⟨h1,_⟩; cases h1) (h hint)
 refine ARound.ofK hb (ps:=(lcP P key).params) (assign:=(lcP P key).assign) (body:=(lcP P key).body) rfl k2 (by rw[hps,← k1,Array.length_toList]) (A:=fun tm1 hp1 => ∃ tm',Is li.nt tm' tm1∧∃ tms1 key1 pd1,hp1[id]? = some (some (.loop tms1 key1 .ready pd1))∧vcE P hint T li.nt li.b tm' (hp1.set id (some (.loop tms1 key1 .busy pd1))) fun e' tm3 hp3 => ∃ pe tms3 key3 ls3 pd3,pendOf e'=some pe∧hp3[id]? = some (some (.loop tms3 key3 ls3 pd3))∧K (.bool pe.isNone) (hp3.set id (some (.loop tms3 key3 (if pe.isNone then .ready else .done) pe)))) ?_ ?_
 ·rw[k1]
  exact ha.mono fun e st' ⟨tm',h1,h2,h3⟩=>⟨h2,tm',h1,h3⟩
 ·rintro tm1 hp1 ⟨tm',h1,tms1,key1,pd1,h2,h3⟩
  refine⟨tms1,key1,pd1,h2,?_⟩
  exact (AW.ofE hm hT k4 hk2.2 k5.2 h1 (by rintro l tm hp ⟨pe,_,_,_,_,h,_⟩; cases h) h3).mono fun e st' ⟨tm',_,h⟩=>h
theorem Is.setP {n:Nat} {tm:Env} {l:List AV} (h:Is n tm l) (p:Nat) (x:AV):Is n (upd tm p x) (setPs l [p] [x]):=h.put (d:=some p) (v:=x)
theorem vcE.callY {P:Program} {hint:Nat→Nat} {T:Tab} {n:Nat} {d:Option Nat} {xs:List Opd} {g:Option (Nat × Bool)} {tm:Env} {hp:HP} {Q:Exit→Env→HP→Prop} {id:Nat} {ys:List AV} {K:AV→HP→Prop} (hw:wantedE tm g=true) (he:evsE tm xs=.yld id :: ys) (hc:ARound P id ys hp K) (hk:∀ r hp',K r hp'→Q .normal (putE tm d r) hp'):vcE P hint T n (.reg [⟨d,.call none,xs,g⟩]) tm hp Q:=by
 intro hm hT hs l Q' hl hq
 simp only[okS,List.all_cons,List.all_nil,xP,IOp.inR,qp] at hs
 obtain⟨⟨h1,h2⟩,h3⟩:=hs
 show vop P _ _ _
 unfold vop
 rw[if_pos (by rw[hl.wanted h3]; exact hw)]
 simp only
 rw[hl.evs h1,he]
 exact hc.mono fun r hp' hr=>hq _ _ _ _ hl.put (hk r hp' hr)
end
end Go.Gi
