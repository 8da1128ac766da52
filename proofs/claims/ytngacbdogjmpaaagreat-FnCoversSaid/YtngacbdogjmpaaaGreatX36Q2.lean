/- Contracts and plain mathematics for a law, merged. -/
import Derived.Test.YtngacbdogjmpaaaGreatX36Q1
set_option linter.unusedVariables false
set_option linter.unusedSimpArgs false
set_option maxRecDepth 100000
namespace Go.Proofs
open Go.Abs

variable {l m c d:List Int} {es fs:List (Int × Int)} {n:Int} {S:Nat→Nat} {M:Nat→Int}

def upd {α:Type} (S:Nat→α) (a:Nat) (x:α):Nat→α:=fun v=>if v=a then x else S v
theorem zfd {α:Type} (S:Nat→α) (a:Nat) (x:α):upd S a x a=x:=by simp [upd]
theorem zbU {α:Type} {S:Nat→α} {a v:Nat} {x:α} (h:v≠a):upd S a x v=S v:=by simp [upd,h]
def cE (s:Nat) (m:Int):Bool:=decide (1<m)||(decide (s=0)==decide (m=0))
def e1N (es:List (Int × Int)) (i:Int):Nat:=(es.getD i.toNat (0,0)).1.toNat
def e2N (es:List (Int × Int)) (i:Int):Nat:=(es.getD i.toNat (0,0)).2.toNat
def sUp (es:List (Int × Int)) (i:Int) (S:Nat→Nat) (x:Nat):Nat→Nat:=upd (upd S (e1N es i) (S (e1N es i) ^^^ (x+1))) (e2N es i) (S (e2N es i) ^^^ (x+1))
def mUp (es:List (Int × Int)) (i:Int) (M:Nat→Int):Nat→Int:=upd (upd M (e1N es i) (M (e1N es i)-1)) (e2N es i) (M (e2N es i)-1)
def okE (es:List (Int × Int)) (i:Int) (S:Nat→Nat) (M:Nat→Int) (x:Nat):Bool:=cE (sUp es i S x (e1N es i)) (mUp es i M (e1N es i))&&cE (sUp es i S x (e2N es i)) (mUp es i M (e2N es i))
def flN (es:List (Int × Int)):List Int→(Nat→Nat)→(Nat→Int)→Nat
 | [],_,_=>1
 | i::E,S,M=>((List.range 3).map fun x:Nat=>if okE es i S M x then flN es E (sUp es i S x) (mUp es i M) else 0).sum
def flTo (es:List (Int × Int)) (E:List Int) (i:Int) (S:Nat→Nat) (M:Nat→Int) (t:Nat):Nat:=((List.range t).map fun x:Nat=>if okE es i S M x then flN es E (sUp es i S x) (mUp es i M) else 0).sum
theorem znU (E:List Int) (i:Int) (S:Nat→Nat) (M:Nat→Int) (t:Nat):flTo es E i S M (t+1)=flTo es E i S M t+if okE es i S M t then flN es E (sUp es i S t) (mUp es i M) else 0:=by
 unfold flTo
 rw [List.range_succ,List.map_append,List.sum_append];simp
theorem zp3 (E:List Int) (i:Int) (S:Nat→Nat) (M:Nat→Int):flN es (i::E) S M=flTo es E i S M 3:=rfl
theorem zjP {E:List Int} {i:Int} {S:Nat→Nat} {M:Nat→Int} (ih:∀ x,flN es E (sUp es i S x) (mUp es i M)≤3^E.length):∀ t,flTo es E i S M t≤t*3^E.length:=by
 intro t
 induction t with
 | zero=>simp [flTo]
 | succ t iht=>
  rw [znU,Nat.add_mul,Nat.one_mul]
  refine Nat.add_le_add iht ?_
  split
  ·exact ih t
  ·exact Nat.zero_le _
theorem zsv:∀ (E:List Int) (S:Nat→Nat) (M:Nat→Int),flN es E S M≤3^E.length
 | [],_,_=>by simp [flN]
 | i::E,S,M=>by
  rw [zp3,List.length_cons,Nat.pow_succ,Nat.mul_comm]
  exact zjP (fun x=>zsv E (sUp es i S x) (mUp es i M)) 3
theorem zyU (E:List Int) (i:Int) (S:Nat→Nat) (M:Nat→Int) (t:Nat):flTo es E i S M t≤t*3^E.length:=zjP (fun x=>zsv E _ _) t
-- colours of edges at a vertex, as a sum
def xcL (d:List Int):List Int→Nat
 | []=>0
 | t::l=>(d.getD t.toNat 0+1).toNat ^^^ xcL d l
def ngL (d:List Int):List Int→Int
 | []=>0
 | t::l=>(if d.getD t.toNat 0<0 then 1 else 0)+ngL d l
theorem zoZ {q x:Nat}:∀ {l:List Int},(∀ t∈l,0≤t)→(q:Int)∉l→xcL (d.set q (x:Int)) l=xcL d l∧ngL (d.set q (x:Int)) l=ngL d l
 | [],_,_=>⟨rfl,rfl⟩
 | t::l,h0,h=>by
  have ht:=h0 t (by simp)
  have hn:q≠t.toNat:=fun e=>h (by rw [show (q:Int)=t by omega];simp)
  obtain ⟨i1,i2⟩:=zoZ (q:=q) (x:=x) (l:=l) (fun y hy=>h0 y (by simp [hy])) fun hm=>h (by simp [hm])
  constructor
  ·rw [xcL,xcL,zam hn,i1]
  ·rw [ngL,ngL,zam hn,i2]
theorem zx2 {q x:Nat} (hq:q<d.length) (hb:d.getD q 0=-1):∀ {l:List Int},(∀ t∈l,0≤t)→l.Nodup→(q:Int)∈l→xcL (d.set q (x:Int)) l=xcL d l ^^^ (x+1)∧ngL (d.set q (x:Int)) l+1=ngL d l
 | [],_,_,h=>by cases h
 | t::l,h0,hn,h=>by
  have ht:=h0 t (by simp)
  rw [List.nodup_cons] at hn
  by_cases e:t=(q:Int)
  ·subst e
   obtain ⟨i1,i2⟩:=zoZ (d:=d) (x:=x) (l:=l) (fun y hy=>h0 y (by simp [hy])) hn.1
   rw [xcL,xcL,ngL,ngL,i1,i2,Int.toNat_natCast,zao hq,hb]
   refine ⟨?_,?_⟩
   ·show ((x:Int)+1).toNat ^^^ xcL d l=(0 ^^^ xcL d l) ^^^ (x+1)
    rw [Nat.zero_xor,Nat.xor_comm,show ((x:Int)+1).toNat=x+1 by omega]
   ·rw [if_neg (by omega),if_pos (by omega)];omega
  ·have hm:(q:Int)∈l:=by
    rcases List.mem_cons.1 h with h|h
    ·exact absurd h.symm e
    ·exact h
   have hne:q≠t.toNat:=fun e2=>e (by omega)
   obtain ⟨i1,i2⟩:=zx2 hq hb (l:=l) (fun y hy=>h0 y (by simp [hy])) hn.2 hm
   rw [xcL,xcL,ngL,ngL,zam hne,i1,← i2]
   exact ⟨by rw [Nat.xor_assoc],by omega⟩
theorem zv2 {a b c:Int} (ha:-1≤a∧a≤2) (hb:-1≤b∧b≤2) (hc:-1≤c∧c≤2) (hab:0≤a→a≠b) (hac:0≤a→a≠c) (hbc:0≤b→b≠c) :
 cE ((a+1).toNat ^^^ ((b+1).toNat ^^^ ((c+1).toNat ^^^ 0))) ((if a<0 then 1 else 0)+((if b<0 then 1 else 0)+((if c<0 then 1 else 0)+0)))=true:=by
 have a4:a=-1∨a=0∨a=1∨a=2:=by omega
 have b4:b=-1∨b=0∨b=1∨b=2:=by omega
 have c4:c=-1∨c=0∨c=1∨c=2:=by omega
 rcases a4 with rfl|rfl|rfl|rfl <;> rcases b4 with rfl|rfl|rfl|rfl <;> rcases c4 with rfl|rfl|rfl|rfl <;> first|decide|(exfalso;omega)
theorem zzZ (hg:IsG n es) (hd:PrpC es d) {v:Nat} (hv:(v:Int)<n):cE (xcL d (atL es (v:Int))) (ngL d (atL es (v:Int)))=true:=by
 have h3:=hg.three (v:=(v:Int)) (by omega) hv
 have hnd:=ziQ (es:=es) (v:Int)
 match hA:atL es (v:Int),h3 with
 | [p,q,r],_=>
  rw [hA] at hnd
  have mp:p∈atL es (v:Int):=by rw [hA];simp
  have mq:q∈atL es (v:Int):=by rw [hA];simp
  have mr:r∈atL es (v:Int):=by rw [hA];simp
  obtain ⟨p,rfl,p1,p2⟩:=zaN.1 mp
  obtain ⟨q,rfl,q1,q2⟩:=zaN.1 mq
  obtain ⟨r,rfl,r1,r2⟩:=zaN.1 mr
  simp only [List.nodup_cons,List.mem_cons,List.not_mem_nil,or_false,not_or] at hnd
  obtain ⟨⟨n1,n2⟩,n3,_⟩:=hnd
  have sh:∀ {i j:Nat},on (es.getD i (0,0)) (v:Int)=true→on (es.getD j (0,0)) (v:Int)=true→share (es.getD i (0,0)) (es.getD j (0,0)):=fun h1 h2=>⟨_,h1,h2⟩
  simp only [xcL,ngL,Int.toNat_natCast]
  exact zv2 (hd.rng p) (hd.rng q) (hd.rng r) (hd.col p q p1 q1 (fun e=>n1 (by rw [e])) (sh p2 q2)) (hd.col p r p1 r1 (fun e=>n2 (by rw [e])) (sh p2 r2)) (hd.col q r q1 r1 (fun e=>n3 (by rw [e])) (sh q2 r2))
def FlI (n:Int) (es:List (Int × Int)) (d:List Int) (S:Nat→Nat) (M:Nat→Int):Prop:=∀ v:Nat,(v:Int)<n→S v=xcL d (atL es (v:Int))∧M v=ngL d (atL es (v:Int))
theorem FlI.blank (hg:IsG n es):FlI n es (blank es) (fun _=>0) fun _=>3:=by
 intro v hv
 have h3:=hg.three (v:=(v:Int)) (by omega) hv
 have key:∀ l:List Int,(∀ t∈l,0≤t∧t<es.length)→xcL (Go.Proofs.blank es) l=0∧ngL (Go.Proofs.blank es) l=(l.length:Int):=by
  intro l
  induction l with
  | nil=>intro _;exact ⟨rfl,rfl⟩
  | cons t l ih=>
   intro h
   have ht:=h t (by simp)
   obtain ⟨i1,i2⟩:=ih fun y hy=>h y (by simp [hy])
   rw [xcL,ngL,zbL (by omega),i1,i2,List.length_cons]
   exact ⟨by decide,by rw [if_pos (by omega)];omega⟩
 obtain ⟨h1,h2⟩:=key (atL es (v:Int)) fun t ht=>by
  obtain ⟨i,rfl,hi,_⟩:=zaN.1 ht
  omega
 exact ⟨h1.symm,by rw [h2,h3];rfl⟩
theorem FlI.put (hg:IsG n es) (hd:d.length=es.length) {q x:Nat} (hq:q<es.length) (hb:d.getD q 0=-1) (h:FlI n es d S M):FlI n es (d.set q (x:Int)) (sUp es (q:Int) S x) (mUp es (q:Int) M):=by
 obtain ⟨a,b,he,hab,hbn⟩:=zbb hg hq
 have ea:e1N es (q:Int)=a:=by unfold e1N;rw [Int.toNat_natCast,he];simp
 have eb:e2N es (q:Int)=b:=by unfold e2N;rw [Int.toNat_natCast,he];simp
 intro v hv
 have h0:∀ t∈atL es (v:Int),0≤t:=fun t ht=>by obtain ⟨i,rfl,_⟩:=zaN.1 ht;omega
 have hon:(q:Int)∈atL es (v:Int)↔v=a∨v=b:=by
  rw [← zhI,← he,zaN]
  constructor
  ·rintro ⟨i,hi,_,h2⟩
   obtain rfl:q=i:=by omega
   exact h2
  ·exact fun h=>⟨q,rfl,hq,h⟩
 unfold sUp mUp
 rw [ea,eb]
 obtain ⟨s1,s2⟩:=h v hv
 by_cases hm:v=a∨v=b
 ·obtain ⟨i1,i2⟩:=zx2 (x:=x) (by omega:q<d.length) hb h0 (ziQ _) (hon.2 hm)
  rw [i1,← s1]
  have hM:M v=ngL (d.set q (x:Int)) (atL es (v:Int))+1:=by rw [s2,i2]
  rcases hm with rfl|rfl
  ·rw [zbU (by omega),zfd,zbU (by omega),zfd]
   exact ⟨rfl,by omega⟩
  ·rw [zfd,zfd]
   exact ⟨rfl,by omega⟩
 ·obtain ⟨i1,i2⟩:=zoZ (d:=d) (x:=x) h0 fun hh=>hm (hon.1 hh)
  have h1:v≠a:=fun e=>hm (.inl e)
  have h2:v≠b:=fun e=>hm (.inr e)
  rw [i1,i2,zbU h2,zbU h1,zbU h2,zbU h1]
  exact ⟨s1,s2⟩
theorem zs2 (hg:IsG n es):∀ (E d:List Int) (S:Nat→Nat) (M:Nat→Int),PrpC es d→E.Nodup→(∀ i∈E,0≤i∧i<es.length∧d.getD i.toNat 0=-1)→FlI n es d S M→(ptL es E d).length≤flN es E S M
 | [],d,S,M,_,_,_,_=>by simp [ptL,flN]
 | i::E,d,S,M,hd,hn,hE,hI=>by
  obtain ⟨i0,i1,i2⟩:=hE i (by simp)
  obtain ⟨q,rfl⟩:∃ q:Nat,i=q:=⟨i.toNat,by omega⟩
  rw [Int.toNat_natCast] at i2
  rw [List.nodup_cons] at hn
  have hq:q<es.length:=by omega
  rw [zep i2,flN,sum3,sum3]
  have key:∀ x:Nat,x<3→(if clashB es d q (x:Int) then 0 else (ptL es E (d.set q (x:Int))).length)≤if okE es (q:Int) S M x then flN es E (sUp es (q:Int) S x) (mUp es (q:Int) M) else 0:=by
   intro x hx
   cases hc:clashB es d q (x:Int) with
   | true=>simp
   | false=>
    have hp:=hd.put hq hx hc
    have hI':=hI.put hg hd.len (x:=x) hq i2
    obtain ⟨a,b,he,hab,hbn⟩:=zbb hg hq
    have ea:e1N es (q:Int)=a:=by unfold e1N;rw [Int.toNat_natCast,he];simp
    have eb:e2N es (q:Int)=b:=by unfold e2N;rw [Int.toNat_natCast,he];simp
    have hok:okE es (q:Int) S M x=true:=by
     unfold okE
     rw [ea,eb,(hI' a (by omega)).1,(hI' a (by omega)).2,(hI' b hbn).1,(hI' b hbn).2,zzZ hg hp (by omega),zzZ hg hp hbn];rfl
    rw [if_neg (by simp),if_pos hok]
    refine zs2 hg E _ _ _ hp hn.2 (fun j hj=>?_) hI'
    obtain ⟨j0,j1,j2⟩:=hE j (by simp [hj])
    refine ⟨j0,j1,?_⟩
    rw [zam fun e=>hn.1 (by rw [show ((q:Nat):Int)=j by omega];exact hj),j2]
  have k0:=key 0 (by omega);have k1:=key 1 (by omega);have k2:=key 2 (by omega)
  omega
def flP (es:List (Int × Int)) (E:List Int):Nat:=flN es E (fun _=>0) fun _=>3
theorem zzo (hg:IsG n es) (hc:IsC es c) {v:Nat} (hv:v∈leadL es n.toNat):6≤flP es (partE es v):=by
 have hv2:v<n.toNat∧vLeadB es v=true:=by
  unfold leadL at hv
  rw [List.mem_filter,List.mem_range] at hv;exact hv
 have h6:=six hg (v:=v) (by omega) hv2.2
 have hpos:0<partN es (partE es v):=List.length_pos_of_mem (zi3 hc)
 have hle:=zs2 hg (partE es v) (blank es) _ _ zm6 (zf5 v) (fun i hi=>⟨(zbX hi).1,(zbX hi).2,zbL (by have:=zbX hi;omega)⟩) (FlI.blank hg)
 unfold partN at h6 hpos
 unfold flP
 omega
noncomputable def flTC (es:List (Int × Int)) (n k:Nat):Nat:=mulN (((partL es n).take k).map (flP es))
noncomputable def flC (es:List (Int × Int)) (n:Nat):Nat:=mulN ((partL es n).map (flP es))
theorem zsN {n k:Nat} (h:k<(partL es n).length):flTC es n (k+1)=flTC es n k*flP es ((partL es n).getD k []):=by
 unfold flTC
 rw [List.take_succ_eq_append_getElem h,List.map_append,← zae (d:=[]) h]
 exact zjq _ _
theorem zw4 (n:Nat):flTC es n (partL es n).length=flC es n:=by
 unfold flTC flC;rw [List.take_length]
theorem zyf (hg:IsG n es) (k:Nat):flTC es n.toNat k≤3^30:=by
 have h30:es.length≤30:=by have:=hg.ed.len;have:=hg.ed.hi;omega
 have h1:=zk6 (b:=3) (by decide) (f:=flP es) ((partL es n.toNat).take k) fun E _=>zsv E _ _
 refine Nat.le_trans h1 (Nat.pow_le_pow_right (by decide) ?_)
 rw [List.map_take]
 exact Nat.le_trans (zp5 _ _) (by rw [zpv hg];exact h30)
theorem zwk:∀ {L:List Nat},L≠[]→(∀ x∈L,6≤x)→6≤mulN L
 | [],h,_=>absurd rfl h
 | a::L,_,h=>by
  have ha:=h a (by simp)
  rw [mulN]
  have hp:0<mulN L:=zhS.2 fun x hx=>by have:=h x (by simp [hx]);omega
  exact Nat.le_trans ha (Nat.le_mul_of_pos_right _ hp)
theorem zzs (hg:IsG n es) (hc:IsC es c):6≤flC es n.toNat:=by
 have n0:=hg.ed.lo
 have hl:=hg.ed.len
 obtain ⟨v,hv,_⟩:=zi9 (j:=0) hg (by omega)
 unfold flC
 refine zwk (fun h=>?_) fun x hx=>?_
 ·have:flP es (partE es v)∈(partL es n.toNat).map (flP es):=List.mem_map.2 ⟨_,List.mem_map.2 ⟨v,hv,rfl⟩,rfl⟩
  rw [h] at this;cases this
 ·obtain ⟨E,hE,rfl⟩:=List.mem_map.1 hx
  unfold partL at hE
  obtain ⟨w,hw,rfl⟩:=List.mem_map.1 hE
  exact zzo hg hc hw
end Go.Proofs
namespace Go.Proofs
open Go.Abs

end Go.Proofs
namespace Go.Proofs
open Go.Abs

variable {H G:AHeap} {v u f:Value} {l m c D:List Int} {es fs:List (Int × Int)} {K:Value→AHeap→Prop} {A A':Nat→Prop} {B:Nat} {ls ms:List (List Int)}

theorem zkM {e:Int × Int} {x:Int} (h1:0≤e.1∧e.1≤1000000) (h2:0≤e.2∧e.2≤1000000) (h3:0≤x∧x≤1000000) (k:∀ G,H.le G→K (.int .i64 (e.1+e.2-x)) G):AC Tryz.prog T0 133 [ve e,.int .i64 x] H K:=by
 apply F133.ac
 unfold F133.B2
 refine zaf rfl fun H1 l1 n1 o1=>?_
 unfold F133.B1
 have k:=k _ l1
 refine zac o1 rfl (zac o1 rfl ?_)
 rw [zad (x:=e.1+e.2) (by omega) (by omega),zad (by omega) (by omega)]
 exact k
theorem zcR {e:Int × Int} {x:Int} (h:on e x=true):e.1+e.2-x=e.1∨e.1+e.2-x=e.2:=by
 unfold on at h
 simp only [Bool.or_eq_true,beq_iff_eq] at h
 omega
end Go.Proofs
namespace Go.Proofs
open Go.Abs

variable {H G:AHeap} {v u f:Value} {l m c D:List Int} {es fs:List (Int × Int)} {K:Value→AHeap→Prop} {A A':Nat→Prop} {B:Nat} {ls ms:List (List Int)}

theorem zec {m0:Nat} {t:TypeId} {z n:Nat} {cs:List Value} (h:Fresh m0 H v t z cs) (hz:0<z) (hn:cs.length=n*z):cellsAt H v z n cs:=by
 rcases h with ⟨rfl,h⟩|⟨b,k,_,rfl,ho,hk⟩
 ·have:n=0:=by
   cases n with
   | zero=>rfl
   | succ n=>simp [Nat.add_mul] at hn;omega
  subst this
  rcases h with rfl|⟨a,rfl⟩
  ·exact ⟨hn,_,_,rfl,.inl rfl⟩
  ·exact ⟨hn,_,_,rfl,.inl rfl⟩
 ·obtain rfl:k=n:=Nat.eq_of_mul_eq_mul_right hz (hk.symm.trans hn)
  exact zcK ho hn
end Go.Proofs
namespace Go.Proofs
open Go.Abs

variable {H G:AHeap} {K:Value→AHeap→Prop}

end Go.Proofs
namespace Go.Proofs
open Go.Abs

variable {H G:AHeap}

end Go.Proofs
namespace Go.Proofs
open Go.Abs

variable {H G:AHeap} {v u f:Value} {l m c D:List Int} {es fs:List (Int × Int)} {K:Value→AHeap→Prop} {A A':Nat→Prop} {B:Nat} {ls ms:List (List Int)}

theorem zcE {n e x:Int} (h:Edges H v es) (h0:0≤e) (h1:e<es.length) (b1:0≤(es.getD e.toNat (0,0)).1∧(es.getD e.toNat (0,0)).1≤1000000) (b2:0≤(es.getD e.toNat (0,0)).2∧(es.getD e.toNat (0,0)).2≤1000000) (b3:0≤x∧x≤1000000)
 (k:∀ G,H.le G→K (.int .i64 ((es.getD e.toNat (0,0)).1+(es.getD e.toNat (0,0)).2-x)) G):AC Tryz.prog T0 170 [.agg ⟨[.int .i64 n,v]⟩,.int .i64 e,.int .i64 x] H K:=by
 apply F170.ac
 unfold F170.B2
 refine zaf (zak (zah h)) fun H1 l1 _ o1=>?_
 unfold F170.B1
 obtain ⟨bb,oo,hk,c1,c2⟩:=(h.le l1).idx h0 h1
 refine zab o1 rfl (hk _ (zap c1 (zab o1 rfl (hk _ (zap c2 ?_)))))
 rw [zad (x:=_+_) (by omega) (by omega),zad (by omega) (by omega)]
 exact k _ l1
end Go.Proofs
namespace Go.Proofs
open Go.Abs

variable {H G:AHeap} {v u f:Value} {l m c D:List Int} {es fs:List (Int × Int)} {K:Value→AHeap→Prop} {A A':Nat→Prop} {B:Nat} {ls ms:List (List Int)}

end Go.Proofs
namespace Go.Proofs

section
variable {α:Type} {d:α} {L L' L'':List α} {a b a' b' i j k:Nat}
structure Cmp (c:α→α→Int):Prop where
 tr:∀ x y z,¬ c y x<0→¬ c z y<0→¬ c z x<0
 asy:∀ x y,c x y<0→¬ c y x<0
abbrev LeC (c:α→α→Int) (x y:α):Prop:=¬ c y x<0
variable {c:α→α→Int}
theorem Cmp.lt (h:Cmp c) {x y:α} (hx:c x y<0):LeC c x y:=h.asy _ _ hx
end
section
variable {α:Type} {le:α→α→Prop}
theorem zfT (anti:∀ a b,le a b→le b a→a=b):∀ {A B:List α},A.Pairwise le→B.Pairwise le→A.Perm B→A=B
 | [],B,_,_,h=>(List.nil_perm.1 h).symm▸rfl
 | a::A,[],_,_,h=>absurd h.length_eq (by simp)
 | a::A,b::B,hA,hB,h=>by
  obtain ⟨a1,a2⟩:=List.pairwise_cons.1 hA
  obtain ⟨b1,b2⟩:=List.pairwise_cons.1 hB
  have hab:a=b:=by
   apply Classical.byContradiction
   intro hne
   have h1:a∈B:=by
    rcases List.mem_cons.1 (h.mem_iff.1 (List.mem_cons_self (a:=a) (l:=A))) with h|h
    ·exact absurd h hne
    ·exact h
   have h2:b∈A:=by
    rcases List.mem_cons.1 (h.mem_iff.2 (List.mem_cons_self (a:=b) (l:=B))) with h|h
    ·exact absurd h.symm hne
    ·exact h
   exact hne (anti _ _ (a1 _ h2) (b1 _ h1))
  subst hab
  rw [zfT anti a2 b2 (List.Perm.cons_inv h)]
end
end Go.Proofs
namespace Go.Proofs
open Go.Abs

variable {H G:AHeap} {v u f:Value} {l m c D:List Int} {es fs:List (Int × Int)} {K:Value→AHeap→Prop} {n:Int}

end Go.Proofs
namespace Go.Proofs
open Go.Abs

variable {H G:AHeap} {v u f:Value} {l m c:List Int} {es fs:List (Int × Int)} {K:Value→AHeap→Prop} {A:Nat→Prop} {B:Nat} {ls:List (List Int)}

noncomputable def tiSet:TI:=(T0 55).getD ⟨.bool,0,0,undef⟩
theorem ztX:Elem T0 55 1:=⟨tiSet,by kernel_rfl,by kernel_rfl,of_decide_eq_true (by kernel_rfl),by kernel_rfl⟩
theorem zeq {Z:List Nat} {i:Nat} (h:i<Z.length):(LU Z)[i]?=some (.int .u64 (Z.getD i 0:Nat)):=by simp [h]
theorem zuD {p:Nat→Bool} {Z:List Nat} {m0:Nat} (h:Sl m0 H v 55 1 (LU Z)) (hl:Z.length≤4611686018427387904) (hf:∀ e∈Z,Cl H f (.int .u64 (e:Nat)) (p e)) (k:∀ r G,H.le G→decide (r≥0)=Z.any p→K (.int .i64 r) G) :
 AC Tryz.prog T0 121 [v,f] H K:=by
 apply F121.ac
 unfold F121.B9 F121.B8
 refine h.len (by decide) (n:=Z.length) (by simp) ?_
 unfold F121.L2
 refine ⟨fun x0 x1 x7 x8 G=>v=x0∧f=x1∧(Z.length:Int)=x7∧H.le G∧∃ n:Nat,x8=n∧n≤Z.length∧∀ i:Nat,i<n→p (Z.getD i 0)=false,fun _ _ _ x8 _=>Z.length-x8.toNat,⟨rfl,rfl,rfl,AHeap.le_refl _,0,rfl,by omega,fun i hi=>absurd hi (by omega)⟩,?_⟩
 rintro x0 x1 x7 x8 G ⟨rfl,rfl,rfl,hG,n,rfl,hn',hp⟩
 unfold F121.B7
 refine zaa (fun hb=>?_) fun hb=>?_
 ·have hn:n<Z.length:=by have:=of_decide_eq_true hb;omega
  unfold F121.B6 F121.B5
  refine zfB (h.le hG) (by omega) (by simp;omega) (by rw [Int.toNat_natCast];exact zeq hn) ?_
  rw [zae hn]
  refine hf Z[n] (List.getElem_mem hn) G hG _ fun G2 hG2=>zai (zaa (fun hb=>?_) fun hb=>?_)
  ·unfold F121.B4
   refine k _ _ (AHeap.le_trans hG hG2) ?_
   rw [List.any_eq_true.2 ⟨Z[n],List.getElem_mem hn,hb⟩];simp
  ·unfold F121.B3
   rw [zad (by omega) (by omega)]
   refine ⟨⟨rfl,rfl,rfl,AHeap.le_trans hG hG2,n+1,by omega,by omega,fun i hi=>?_⟩,by simp;omega⟩
   by_cases he:i=n
   ·subst he;rw [zae hn];exact hb
   ·exact hp i (by omega)
 ·have hge:n=Z.length:=by have:=of_decide_eq_false hb;omega
  unfold F121.B1
  refine k _ _ hG ?_
  have:Z.any p=false:=by
   rw [List.any_eq_false]
   intro e he
   obtain ⟨i,hi,rfl⟩:=List.getElem_of_mem he
   have:=hp i (by omega)
   rw [zae hi] at this;simp [this]
  rw [this];simp
theorem zhx {p:Nat→Bool} {Z:List Nat} {m0:Nat} (h:Sl m0 H v 55 1 (LU Z)) (hl:Z.length≤4611686018427387904) (hf:∀ e∈Z,Cl H f (.int .u64 (e:Nat)) (p e)) (k:∀ G,H.le G→K (.bool (Z.any p)) G) :
 AC Tryz.prog T0 108 [v,f] H K:=by
 apply F108.ac
 unfold F108.B2 F108.B1
 refine zuD h hl hf fun r G hG hr=>zag ?_
 rw [hr];exact k G hG
noncomputable def compN (es:List (Int × Int)) (p:Nat→Bool) (i:Nat):Nat:=setN (compL es p i)
noncomputable def cycN (es:List (Int × Int)) (p:Nat→Bool) (l:List Int):List Nat:=(l.filter fun x=>cLeadB es p x.toNat).map fun x=>compN es p x.toNat
theorem znz {es:List (Int × Int)} {p:Nat→Bool} {l:List Int} {t:Nat} (h:t<l.length):cycN es p (l.take (t+1))=cycN es p (l.take t)++if cLeadB es p (l[t]).toNat then [compN es p (l[t]).toNat] else []:=by
 unfold cycN
 rw [List.take_succ_eq_append_getElem h,List.filter_append,List.map_append]
 congr 1
 cases hl:cLeadB es p (l[t]).toNat <;> simp [hl]
theorem zjr {es:List (Int × Int)} {p:Nat→Bool} {i:Nat} {x:Int} (h:x∈compL es p i):0≤x∧x<es.length:=by
 obtain ⟨j,rfl,h1,_⟩:=zaU.1 h
 omega
theorem zdL {es:List (Int × Int)} {p:Nat→Bool} {i j:Nat}:(compN es p i).testBit j=true↔j<es.length∧Rch (eAdj es p) i j:=by
 unfold compN
 rw [zbB fun x hx=>(zjr hx).1,decide_eq_true_iff,zaU]
 constructor
 ·rintro ⟨j',h1,h2⟩
  obtain rfl:j=j':=by omega
  exact h2
 ·rintro ⟨h1,h2⟩
  exact ⟨j,rfl,h1,h2⟩
theorem zvY {es:List (Int × Int)} {p:Nat→Bool} {i s:Nat} (h1:∀ j,s.testBit j=true→j<es.length) (h2:∀ j,s.testBit j=true↔Rch (eAdj es p) i j):s=compN es p i:=by
 apply Nat.eq_of_testBit_eq
 intro j
 rw [Bool.eq_iff_iff,zdL,← h2]
 exact ⟨fun h=>⟨h1 j h,h⟩,fun h=>h.2⟩
theorem zhY {es:List (Int × Int)} {p:Nat→Bool} {i:Nat} (hm:es.length≤64):compN es p i<2^64:=za8 fun x hx=>by have:=zjr hx;omega
theorem zj7 {es:List (Int × Int)} {p:Nat→Bool} {i:Nat} (hm:es.length≤64):bitsL (compN es p i)=compL es p i:=by
 rw [zbm hm fun j hj=>(zdL.1 hj).1]
 unfold compL
 refine zcl fun j hj=>?_
 rw [Bool.eq_iff_iff,zdL,zaE]
 exact ⟨fun h=>h.2,fun h=>⟨hj,h⟩⟩
theorem zvT {es:List (Int × Int)} {p:Nat→Bool} {l:List Int} (hl:l=filtB p es.length) {t x:Nat} (ht:t<l.length) (hx:l[t]=(x:Int)) (hm:x<es.length):(cycN es p (l.take t)).any (fun z=>z.testBit x)=!cLeadB es p x:=by
 have h:=zr2 (n:=0) hl ht
 rw [hx,Int.toNat_natCast] at h
 have:(cycN es p (l.take t)).any (fun z=>z.testBit x)=true↔cLeadB es p x=false:=by
  rw [← h,List.any_eq_true]
  constructor
  ·rintro ⟨z,hz,hb⟩
   unfold cycN at hz
   rw [List.mem_map] at hz
   obtain ⟨y,hy,rfl⟩:=hz
   rw [List.mem_filter] at hy
   exact ⟨y,hy.1,hy.2,(zdL.1 hb).2⟩
  ·rintro ⟨y,h1,h2,h3⟩
   refine ⟨compN es p y.toNat,?_,zdL.2 ⟨hm,h3⟩⟩
   unfold cycN
   exact List.mem_map.2 ⟨y,List.mem_filter.2 ⟨h1,h2⟩,rfl⟩
 rw [Bool.eq_iff_iff,this];simp
theorem zz2 {x b:Nat} {s:Nat} (hs:s<2^64) (ho:Own H b 2 [.int .i64 (x:Nat)]):Cl H (.func (.func 109) ⟨[]⟩ ⟨[.pointer (some ⟨b,0,none⟩)]⟩) (.int .u64 (s:Nat)) (s.testBit x):=by
 intro G hG K k
 refine zaJ ?_
 apply F109.ac
 unfold F109.B2 F109.B1
 refine zaq (zac (ho.le hG) rfl (zcv hs (by omega) (zai ?_)))
 rw [Int.toNat_natCast]
 exact k _ (AHeap.le_refl _)
theorem zeJ {n:Int} {s:Nat} (h:Edges H v es) (hg:IsG n es) (hs:s<2^64) (hsb:∀ j,s.testBit j=true→j<es.length)
 (k:∀ v' G,H.le G→Fresh H.length G v' 55 1 (LU (cycN es (fun j=>s.testBit j) (filtB (fun j=>s.testBit j) es.length)))→K v' G):AC Tryz.prog T0 48 [.agg ⟨[.int .i64 n,v]⟩,.int .u64 (s:Nat)] H K:=by
 have h30:es.length≤30:=by have:=hg.ed.len;have:=hg.ed.hi;omega
 apply F48.ac
 unfold F48.B28
 refine zaf (zak (zah h)) fun H1 l1 n1 o1=>?_
 unfold F48.B27 F48.B26
 refine zco hs fun w H2 l2 f2=>?_
 obtain ⟨p,hp⟩:∃ p:Nat→Bool,p=fun j=>s.testBit j:=⟨_,rfl⟩
 rw [zbm (by omega) hsb,← hp] at f2
 rw [← hp] at k
 obtain ⟨L,hL⟩:∃ L,L=filtB p es.length:=⟨_,rfl⟩
 rw [← hL] at f2 k
 have hLl:L.length≤es.length:=by rw [hL];exact zas _ _
 have l12:=AHeap.le_trans l1 l2
 refine f2.ints.len ?_
 unfold F48.L2
 refine ⟨fun x1 x2 x5 x15 x16 x17 G=>((s:Nat):Int)=x1∧H.length=x2∧w=x15∧(L.length:Int)=x16∧H2.le G∧∃ t:Nat,x17=t∧t≤L.length∧Fresh H2.length G x5 55 1 (LU (cycN es p (L.take t))),fun _ _ _ _ _ x17 _=>L.length-x17.toNat,⟨rfl,rfl,rfl,rfl,AHeap.le_refl _,0,rfl,by omega,.inl ⟨rfl,.inl rfl⟩⟩,?_⟩
 rintro x1 x2 x5 x15 x16 x17 G ⟨rfl,rfl,rfl,rfl,hG,t,rfl,ht,hF⟩
 have lG:=AHeap.le_trans l12 hG
 have oG:=(o1.le l2).le hG
 unfold F48.B25
 refine zaa (fun hb=>?_) fun hb=>?_
 ·have htl:t<L.length:=by have:=of_decide_eq_true hb;omega
  obtain ⟨e,he1,he2,he3⟩:∃ e:Nat,L[t]=(e:Int)∧e<es.length∧p e=true:=by
   have hm:L[t]∈L:=List.getElem_mem htl
   obtain ⟨j,h1,h2⟩:=zar.1 (show L[t]∈filtB p es.length by rw [← hL];exact hm)
   exact ⟨j,h1,h2⟩
  have hany:=zvT hL htl he1 he2
  have hzl:(cycN es p (L.take t)).length≤30:=by
   unfold cycN;rw [List.length_map]
   exact Nat.le_trans (List.length_filter_le _ _) (by rw [List.length_take];omega)
  unfold F48.B24
  refine (f2.ints.le hG).rd (by omega) (by omega) (zaf rfl fun H3 l3 n3 o3=>zaG o3 (by simp) (by simp [Value.oneCell']) rfl fun H4 b4 o4=>?_)
  rw [Int.toNat_natCast,zae htl,he1] at o4
  have l4:G.le H4:=b4.le l3 (Nat.le_refl _)
  have skip:cLeadB es p e=false→∀ N2:Int→Nat→Value→Value→Int→Int→AHeap→Prop,∀ G',H4.le G'→(∀ x5' G'',H2.le G''→Fresh H2.length G'' x5' 55 1 (LU (cycN es p (L.take (t+1))))→N2 s H.length x5' w L.length ((t:Int)+1) G'')→F48.B3 K N2 s H.length x5 w L.length t G':=by
   intro hl N2 G' hG' hN
   unfold F48.B3
   rw [zad (by omega) (by omega)]
   refine hN x5 G' (AHeap.le_trans hG (AHeap.le_trans l4 hG')) ?_
   rw [znz htl,he1,Int.toNat_natCast,hl]
   simpa using hF.le (AHeap.le_trans l4 hG')
  have fin:∀ x5' G'',H2.le G''→Fresh H2.length G'' x5' 55 1 (LU (cycN es p (L.take (t+1))))→(((s:Nat):Int)=s∧H.length=H.length∧w=w∧(L.length:Int)=L.length∧H2.le G''∧∃ t':Nat,(t:Int)+1=t'∧t'≤L.length∧Fresh H2.length G'' x5' 55 1 (LU (cycN es p (L.take t'))))∧L.length-((t:Int)+1).toNat<L.length-(t:Int).toNat:=
   fun x5' G'' h1 h2=>⟨⟨rfl,rfl,rfl,rfl,h1,t+1,by omega,by omega,h2⟩,by omega⟩
  have bfs:cLeadB es p e=true→∀ N2:Int→Nat→Value→Value→Int→Int→AHeap→Prop,∀ G0,H4.le G0→(∀ x5' G'',H2.le G''→Fresh H2.length G'' x5' 55 1 (LU (cycN es p (L.take (t+1))))→N2 s H.length x5' w L.length ((t:Int)+1) G'')→F48.B22 K N2 s H.length x5 G.length w L.length t G0:=by
   intro hlead N2 G0 hG0 hN
   have lG0:=AHeap.le_trans lG (AHeap.le_trans l4 hG0)
   have l20:=AHeap.le_trans hG (AHeap.le_trans l4 hG0)
   have hF:=hF.le (AHeap.le_trans l4 hG0)
   have oG:=oG.le (AHeap.le_trans l4 hG0)
   unfold F48.B22
   refine zac (o4.le hG0) rfl ⟨by omega,?_⟩
   rw [zbq (by omega) (by omega),Int.toNat_natCast]
   have p64:2^e<2^64:=Nat.pow_lt_pow_right (by decide) (by omega)
   unfold F48.B21
   refine zac (o4.le hG0) rfl (zaf rfl fun H5 l5 n5 o5=>?_)
   unfold F48.L5
   refine ⟨fun x1 x2 x5' x8 x9 x15 x16 x17 G=>((s:Nat):Int)=x1∧H.length=x2∧x5=x5'∧w=x15∧(L.length:Int)=x16∧(t:Int)=x17∧G0.le G∧BitQ G0.length (fun S Q=>Ex (eAdj es p) e S Q∧(∀ y,S y=true→y<es.length)∧2*unseen S es.length+Q.length≤61) x8 x9 G,
    fun _ _ _ x8 x9 _ _ _ _=>2*unseen (fun j=>x8.toNat.testBit j) es.length+lenV x9,⟨rfl,rfl,rfl,rfl,rfl,rfl,l5,2^e,[e],rfl,p64,⟨.init fun x=>?_,fun y hy=>?_,by have:=zbK (fun j=>(2^e).testBit j) es.length;simp;omega⟩,(Fresh.sl (.inr ⟨_,1,Nat.le_refl _,rfl,o5,rfl⟩))⟩,?_⟩
   ·rw [Nat.testBit_two_pow];simp [eq_comm]
   ·have hy:(2^e).testBit y=true:=hy
    rw [Nat.testBit_two_pow] at hy;have:=of_decide_eq_true hy;omega
   rintro x1 x2 x5' x8 x9 x15 x16 x17 G1 ⟨rfl,rfl,rfl,rfl,rfl,rfl,hG1,z,Q,rfl,hz,⟨hE,hB,hU⟩,hQ⟩
   have lG1:=AHeap.le_trans lG0 hG1
   have oG1:=oG.le hG1
   unfold F48.B20
   refine hQ.len (by decide) (n:=Q.length) (by simp) (zaa (fun hb=>?_) fun hb=>?_)
   ·have hpos:0<Q.length:=by have:=of_decide_eq_true hb;omega
    cases Q with
    | nil=>simp at hpos
    | cons x Q=>
    have hxl:x<es.length:=hB x (hE.q x (by simp))
    obtain ⟨d1,d2,d3,d4,d5⟩:=hg.ed.ends es[x] (List.getElem_mem hxl)
    rw [← zae (d:=(0,0)) hxl] at d1 d2 d3 d4 d5
    have hmu:2*unseen (fun j=>(((z:Nat):Int).toNat).testBit j) es.length+lenV x9=2*unseen (fun j=>z.testBit j) es.length+(Q.length+1):=by
     rw [zb0 hQ];simp
    have hU:2*unseen (fun j=>z.testBit j) es.length+(Q.length+1)≤61:=hU
    unfold F48.B19
    refine zab oG1 rfl (hQ.ints.rd (by decide) (by simp) ?_)
    rw [show (NI (x::Q)).getD (0:Int).toNat 0=(x:Int) from rfl]
    obtain ⟨bb,oo,hk,c1,c2⟩:=(h.le lG1).idx (show (0:Int)≤x by omega) (by omega)
    simp only [Int.toNat_natCast] at c1 c2
    refine hk _ (zap c1 (zap c2 ?_))
    unfold F48.L7
    refine ⟨fun x1 x2 x5' x8 x9 x15 x16 x17 x44a x44b x45 G=>((s:Nat):Int)=x1∧H.length=x2∧x5=x5'∧w=x15∧(L.length:Int)=x16∧(t:Int)=x17∧(es.getD x (0,0)).1=x44a∧(es.getD x (0,0)).2=x44b∧G0.le G∧∃ m:Nat,x45=m∧m≤2∧BitQ G0.length (fun S Q'=>∃ R,Q'=x::R∧InX es p e x (2*unseen (fun j=>z.testBit j) es.length+(Q.length+1)) (PastE es p x m) S R) x8 x9 G,
     fun _ _ _ _ _ _ _ _ _ _ x45 _=>2-x45.toNat,⟨rfl,rfl,rfl,rfl,rfl,rfl,rfl,rfl,hG1,0,rfl,by omega,z,x::Q,rfl,hz,⟨Q,rfl,hE,hB,Nat.le_refl _,fun j ⟨_,_,m',h,_⟩=>absurd h (by omega)⟩,hQ⟩,?_⟩
    clear hQ hE hB hG1 oG1 lG1 hk c1 c2
    rintro x1 x2 x5' x8 x9' x15 x16 x17 x44a x44b x45 G1 ⟨rfl,rfl,rfl,rfl,rfl,rfl,rfl,rfl,hG1,m,rfl,hm,z',_,rfl,hz',⟨R,rfl,hX⟩,hQ⟩
    have lG1:=AHeap.le_trans lG0 hG1
    have oG1:=oG.le hG1
    unfold F48.B18
    refine zaa (fun hb=>?_) fun hb=>?_
    ·have hm2:m<2:=by have:=of_decide_eq_true hb;omega
     unfold F48.B17
     have hat:([.int .i64 (es.getD x (0,0)).1,.int .i64 (es.getD x (0,0)).2]:List Value)[(m:Int).toNat*1]?=some (.int .i64 (en (es.getD x (0,0)) m)):=by
      rcases (by omega:m=0∨m=1) with rfl|rfl <;> rfl
     refine zaR.2 ⟨by omega,by omega,?_⟩
     unfold atK
     rw [hat]
     refine zag ?_
     unfold F48.B16
     refine zac oG1 rfl (zab oG1 rfl (zjC (h.le lG1) (by omega) fun q H6 l6 f6=>?_))
     have hv:0≤en (es.getD x (0,0)) m∧en (es.getD x (0,0)) m<n:=by unfold en;split <;> omega
     have h3:=hg.three hv.1 hv.2
     refine f6.len (by decide) (n:=3) (by rw [List.length_map,h3]) ?_
     have lG6:=AHeap.le_trans hG1 l6
     unfold F48.L9
     refine ⟨fun x1 x2 x5' x8 x9 x15 x16 x17 x44a x44b x45 x50 x51 x52 G=>((s:Nat):Int)=x1∧H.length=x2∧x5=x5'∧w=x15∧(L.length:Int)=x16∧(t:Int)=x17∧(es.getD x (0,0)).1=x44a∧(es.getD x (0,0)).2=x44b∧(m:Int)=x45∧q=x50∧3=x51∧G0.le G∧Sl 0 G q 2 1 (LI (atL es (en (es.getD x (0,0)) m)))∧(∀ b,bk q=some b→bk x9≠some b)∧
      ∃ y:Nat,x52=y∧y≤3∧BitQ G0.length (fun S Q'=>∃ R,Q'=x::R∧InX es p e x (2*unseen (fun j=>z.testBit j) es.length+(Q.length+1)) (PastT es p x m y) S R) x8 x9 G,
      fun _ _ _ _ _ _ _ _ _ _ _ _ _ x52 _=>3-x52.toNat,⟨rfl,rfl,rfl,rfl,rfl,rfl,rfl,rfl,rfl,rfl,rfl,lG6,f6.less (Nat.zero_le _),(fun b hb hb'=>by have:=(f6.lt hb).1;have:=(hQ.lt hb').2;omega),0,rfl,by omega,z',x::R,rfl,hz',⟨R,rfl,hX.more fun j hj=>.inl ?_⟩,hQ.le l6⟩,?_⟩
     ·rcases hj with hj|⟨_,t',h,_⟩
      ·exact hj
      ·exact absurd h (by omega)
     clear hX hQ f6 l6 lG6 oG1 lG1 hG1
     rintro x1 x2 x5' x8 x9' x15 x16 x17 x44a x44b x45 x50 x51 x52 G3 ⟨rfl,rfl,rfl,rfl,rfl,rfl,rfl,rfl,rfl,rfl,rfl,hG3,hW,hA,y,rfl,hy,z3,_,rfl,hz3,⟨R3,rfl,hX⟩,hQ⟩
     unfold F48.B15
     refine zaa (fun hb=>?_) fun hb=>?_
     ·have ht3:y<3:=by have:=of_decide_eq_true hb;omega
      obtain ⟨i,hi1,hi2,hi3⟩:=zc4 (es:=es) (w:=en (es.getD x (0,0)) m) (t:=y) (by omega)
      have hxi:share (es.getD x (0,0)) (es.getD i (0,0)):=⟨_,zqw,hi3⟩
      have hpast:∀ j,PastT es p x m (y+1) j→PastT es p x m y j∨(p j=true∧j=i):=fun j hj=>(PastT.step hj).imp id fun ⟨h1,h2⟩=>⟨h1,by omega⟩
      have pi':p i=s.testBit i:=by rw [hp]
      unfold F48.B14
      refine hW.ints.rd (by omega) (by omega) ?_
      simp only [Int.toNat_natCast,hi1]
      unfold F48.B13
      refine zcv hs (by omega) (zai ?_)
      simp only [Int.toNat_natCast]
      rw [← pi']
      refine zaa (fun hpi=>?_) fun hpi=>?_
      ·refine zcv hz3 (by omega) (zai ?_)
       simp only [Int.toNat_natCast]
       refine zaa (fun hb=>?_) fun hb=>?_
       ·have hn:z3.testBit i=false:=by simpa using hb
        have pi:2^i<2^64:=Nat.pow_lt_pow_right (by decide) (by omega)
        unfold F48.B12
        refine ⟨by omega,?_⟩
        rw [zbq (by omega) (by omega),Int.toNat_natCast,zbG hz3 pi]
        unfold F48.B11
        refine hQ.pushN zbl (by decide) hG3.1 (n:=1) (ys:=[.int .i64 i]) rfl rfl (by have:=hX.mu;simp;omega) (by simp) fun v' G4 k4 ot4 nb4 f4=>?_
        unfold F48.B10
        rw [zad (by omega) (by omega)]
        refine ⟨⟨rfl,rfl,rfl,rfl,rfl,rfl,rfl,rfl,rfl,rfl,rfl,k4.le hG3 (Nat.le_refl _),hW.oth ot4 hA,(fun b hb hb'=>by have:=(hW.lt hb).2;have:=nb4 b hb';omega),y+1,by omega,by omega,z3|||2^i,x::(R3++[i]),rfl,zgN hz3 pi,⟨R3++[i],rfl,hX.push ⟨hi2,hpi,hxi⟩ hn zkw fun j hj=>?_⟩,?_⟩,by simp;omega⟩
        ·exact (hpast j hj).imp id fun h=>h.2
        ·have:=f4.sl
         simpa using this
       ·have hn:z3.testBit i=true:=by simpa using hb
        unfold F48.B10
        rw [zad (by omega) (by omega)]
        refine ⟨⟨rfl,rfl,rfl,rfl,rfl,rfl,rfl,rfl,rfl,rfl,rfl,hG3,hW,hA,y+1,by omega,by omega,z3,x::R3,rfl,hz3,⟨R3,rfl,hX.more fun j hj=>?_⟩,hQ⟩,by simp;omega⟩
        rcases hpast j hj with h|⟨h,rfl⟩
        ·exact .inl h
        ·exact .inr hn
      ·unfold F48.B10
       rw [zad (by omega) (by omega)]
       refine ⟨⟨rfl,rfl,rfl,rfl,rfl,rfl,rfl,rfl,rfl,rfl,rfl,hG3,hW,hA,y+1,by omega,by omega,z3,x::R3,rfl,hz3,⟨R3,rfl,hX.more fun j hj=>?_⟩,hQ⟩,by simp;omega⟩
       rcases hpast j hj with h|⟨h,rfl⟩
       ·exact .inl h
       ·rw [hpi] at h;cases h
     ·have ht3:y=3:=by have:=of_decide_eq_false hb;omega
      subst ht3
      unfold F48.B8
      rw [zad (by omega) (by omega)]
      exact ⟨⟨rfl,rfl,rfl,rfl,rfl,rfl,rfl,rfl,hG3,m+1,by omega,by omega,z3,x::R3,rfl,hz3,⟨R3,rfl,hX.more fun j hj=>.inl (by rw [← h3];exact PastT.fin hj)⟩,hQ⟩,by simp;omega⟩
    ·have hm2:m=2:=by have:=of_decide_eq_false hb;omega
     subst hm2
     unfold F48.B6
     obtain ⟨hE,hlt⟩:=hX.pop fun j h1 h2 h3=>⟨h1,h2,h3.elim (fun h=>⟨0,by omega,h⟩) fun h=>⟨1,by omega,h⟩⟩
     refine hQ.drop (i:=1) (n:=R.length+1) (by simp) (by decide) (by omega) (by omega) fun v' hv'=>?_
     have hv':Sl G0.length G1 v' 2 1 (LI (NI R)):=by simpa using hv'
     refine ⟨⟨rfl,rfl,rfl,rfl,rfl,rfl,hG1,z',R,rfl,hz',⟨hE,hX.bnd,by omega⟩,hv'⟩,?_⟩
     show 2*unseen (fun j=>(((z':Nat):Int).toNat).testBit j) es.length+lenV v'<2*unseen (fun j=>(((z:Nat):Int).toNat).testBit j) es.length+lenV x9
     rw [hmu,zb0 hv']
     simpa using hlt
   ·have hq0:Q=[]:=by
     have:=of_decide_eq_false hb
     cases Q with
     | nil=>rfl
     | cons x Q=>simp at this
    subst hq0
    have hzc:z=compN es p e:=zvY hB hE.fin
    unfold F48.B4
    refine (hF.le hG1).sl.pushN ztX (by decide) (by have:=l20.1;have:=hG1.1;omega) (n:=1) (ys:=[.int .u64 (z:Nat)]) rfl rfl (by simp;omega) (by simp) fun v' G6 k6 _ _ f6=>?_
    unfold F48.B3
    rw [zad (by omega) (by omega)]
    refine hN v' G6 (k6.le (AHeap.le_trans l20 hG1) (Nat.le_refl _)) ?_
    rw [znz htl,he1,Int.toNat_natCast,hlead,← hzc]
    simpa using f6
  have hFc:Sl H2.length H4 x5 55 1 (LU (cycN es p (L.take t))):=(hF.le l4).sl
  have hzb:∀ z∈cycN es p (L.take t),z<2^64:=by
   intro z hz
   unfold cycN at hz
   obtain ⟨y,_,rfl⟩:=List.mem_map.1 hz
   exact zhY (by omega)
  unfold F48.B23
  refine hFc.len (by decide) (n:=(cycN es p (L.take t)).length) (by simp) (zaa (fun hb=>?_) fun hb=>?_)
  ·refine zhx (p:=fun z=>z.testBit e) hFc (by omega) (fun z hz=>zz2 (hzb z hz) o4) fun G7 l7=>zai ?_
   rw [hany]
   cases hl:cLeadB es p e with
   | true=>exact zaz rfl (bfs hl _ G7 l7 fin)
   | false=>exact zay rfl (skip hl _ G7 l7 fin)
  ·have hz0:cycN es p (L.take t)=[]:=by
    have:=of_decide_eq_false hb
    exact List.length_eq_zero_iff.1 (by omega)
   rw [hz0] at hany
   refine bfs ?_ _ H4 (AHeap.le_refl _) fin
   simpa using hany
 ·have hge:t=L.length:=by have:=of_decide_eq_false hb;omega
  subst hge
  rw [List.take_length] at hF
  unfold F48.B1
  exact k _ _ lG (hF.less l12.1)
theorem zk5 {Z:List Nat} {m0:Nat} (h:Sl m0 H v 55 1 (LU Z)) (hl:Z.length≤1000000) (hz:∀ z∈Z,z<2^64)
 (k:∀ v' G,H.le G→RowsF (fun b=>H.length≤b) G.length G v' (Z.map bitsL)→K v' G):AC Tryz.prog T0 47 [v] H K:=by
 apply F47.ac
 unfold F47.B9 F47.B8 F47.B7
 refine h.len (by decide) (n:=Z.length) (by simp) ?_
 unfold F47.L2
 refine ⟨fun x3 x6 x7 x8 G=>v=x6∧(Z.length:Int)=x7∧H.le G∧∃ t:Nat,x8=t∧t≤Z.length∧RowsF (fun b=>H.length≤b) G.length G x3 ((Z.take t).map bitsL),fun _ _ _ x8 _=>Z.length-x8.toNat,⟨rfl,rfl,AHeap.le_refl _,0,rfl,by omega,.nil⟩,?_⟩
 rintro x3 x6 x7 x8 G ⟨rfl,rfl,hG,t,rfl,ht,hR⟩
 unfold F47.B6
 refine zaa (fun hb=>?_) fun hb=>?_
 ·have htl:t<Z.length:=by have:=of_decide_eq_true hb;omega
  unfold F47.B5
  refine zfB (h.le hG) (by omega) (by simp;omega) (by rw [Int.toNat_natCast];exact zeq htl) ?_
  rw [zae htl]
  unfold F47.B4
  refine zco (hz _ (List.getElem_mem htl)) fun w H2 l2 f2=>?_
  refine (hR.le l2).push l2.1 (fun b hb=>Nat.le_trans hG.1 hb) f2 (by rw [List.length_map,List.length_take];omega) fun v' G2 ot nb hlen hR2=>?_
  unfold F47.B3
  rw [zad (by omega) (by omega)]
  refine ⟨⟨rfl,rfl,?_,t+1,by omega,by omega,?_⟩,by simp;omega⟩
  ·refine ⟨by have:=hG.1;have:=l2.1;omega,fun b o ho=>ot b o (fun hv=>?_) (l2.2 _ _ (hG.2 _ _ ho))⟩
   obtain ⟨vs,_,_,q3,_⟩:=hR
   have:=(q3 b hv).1
   have:=zaj ho
   omega
  ·rw [List.take_succ_eq_append_getElem htl,List.map_append];exact hR2
 ·have hge:t=Z.length:=by have:=of_decide_eq_false hb;omega
  subst hge
  rw [List.take_length] at hR
  unfold F47.B1
  exact k _ _ hG hR
theorem zj8 {es:List (Int × Int)} {p:Nat→Bool} {l:List Int} (hm:es.length≤64):(cycN es p l).map bitsL=cycOf es p l:=by
 unfold cycN cycOf
 rw [List.map_map]
 exact List.map_congr_left fun x _=>zj7 hm
end Go.Proofs
namespace Go.Proofs
open Go.Abs

variable {H G:AHeap} {K:Value→AHeap→Prop}

end Go.Proofs
namespace Go.Proofs
open Go.Abs

variable {B H G G':AHeap} {b N:Nat} {L S M:List Nat} {R:List Value} {cmp:Value} {c:Nat→Nat→Int} {dom:Nat→Prop} {K:Value→AHeap→Prop}

theorem wr {x:Int} {i:Nat} (h:x=i) (hi:i≤1000000000000):IntKind.i64.wrap x=(i:Int):=by rw [h];exact zad (by omega) (by omega)
structure Kb (b:Nat) (H G:AHeap):Prop where
 len:H.length≤G.length
 old:∀ q o,q≠b→H[q]?=some (some o)→G[q]?=some (some o)
theorem Kb.refl:Kb b H H:=⟨Nat.le_refl _,fun _ _ _ h=>h⟩
theorem Kb.trans (h:Kb b H G) (k:Kb b G G'):Kb b H G':=⟨Nat.le_trans h.len k.len,fun q o hq ho=>k.old q o hq (h.old q o hq ho)⟩
theorem Kb.of_le (h:H.le G):Kb b H G:=⟨h.1,fun q o _ ho=>h.2 q o ho⟩
theorem _root_.Go.Abs.But.kb (h:But b H G):Kb b H G:=⟨Nat.le_of_eq h.len.symm,fun q o hq ho=>by rw [h.same q hq];exact ho⟩
theorem Kb.le (h:Kb b H G) (h0:B.le H) (hb:B.length≤b):B.le G:=⟨Nat.le_trans h0.1 h.len,fun q o ho=>h.old q o (by have:=zaj ho;omega) (h0.2 q o ho)⟩
end Go.Proofs
namespace Go.Proofs
open Go.Abs

variable {B H G G':AHeap} {b N:Nat} {L S M:List Nat} {R:List Value} {cmp:Value} {c:Nat→Nat→Int} {dom:Nat→Prop} {K:Value→AHeap→Prop}

theorem zbi {b o:Nat} {K:Value→Prop} (h:K (.pointer (some ⟨b,o,none⟩))):nilK (.pointer (some ⟨b,o,none⟩)) K:=h
end Go.Proofs
namespace Go.Abs
section
variable {T:TT} {H:AHeap} {n:Nat} {t:TypeId} {cs:List Value}
def isU8 (o:Option TI):Bool:=match o with|some ⟨.int .u8,_,_,_⟩=>true|_=>false
theorem zBn (h:isU8 (T t)=true) (a:AT T H n t cs):∃ x,cs=[.int .u8 x]∧0≤x∧x≤255:=by
 cases n with
 | zero=>exact a.elim
 | succ n=>
  unfold AT at a
  split at a
  ·rename_i ti hti
   rw [hti] at h
   obtain ⟨d,_,_,_⟩:=ti
   cases d <;> first|(simp [isU8] at h;done)|skip
   rename_i k
   cases k <;> first|(simp [isU8] at h;done)|skip
   obtain ⟨x,rfl,hx⟩:=a
   have:=Go.bounds_u8 hx
   exact ⟨x,rfl,this.1,this.2⟩
  ·exact a.elim
theorem znd {e:TypeId} (he:isU8 (T e)=true) (hz:sz T e=1):∀ (len:Nat) (xs:List Value),Chunked T (AT T H n) (List.replicate len e) xs→∃ l:List Int,l.length=len∧xs=l.map (Value.int .u8)∧∀ x∈l,0≤x∧x≤255
 | 0,xs,h=>⟨[],rfl,h,by simp⟩
 | len+1,xs,h=>by
  rw [List.replicate_succ] at h
  obtain ⟨h1,h2,h3⟩:=h
  rw [hz] at h1 h2 h3
  obtain ⟨x,hx,hr⟩:=zBn he h2
  obtain ⟨l,hl,he,hb⟩:=znd he hz len _ h3
  refine ⟨x::l,by simp [hl],?_,?_⟩
  ·cases xs with
   | nil=>simp at h1
   | cons y ys=>simp at hx he ⊢;exact ⟨hx,he⟩
  ·intro y hy
   rcases List.mem_cons.1 hy with rfl|hy
   ·exact hr
   ·exact hb y hy
end
end Go.Abs
namespace Go.Proofs
open Go.Abs

variable {H G Hb:AHeap} {v u f w:Value} {l m:List Int} {K:Value→AHeap→Prop} {bs:Nat}

def Byts (H:AHeap) (v:Value) (l:List Int):Prop:=(∀ x∈l,0≤x∧x≤255)∧((v=.slice none 0 0∧l=[])∨∃ a c,v=.slice (some a) l.length c∧(l=[]∨(a.spot=none∧∀ (i:Nat) x,l[i]?=some x→H.cell a.block (a.off+i)=some (.int .u8 x))))
theorem zvs (h:AV T0 H 22 v):∃ l,Byts H v l∧l.length≤9223372036854775807:=by
 obtain ⟨n,cs,a,rfl⟩:=zkR h (by kernel_rfl)
 rcases zh3 (e:=5) (by kernel_rfl) a with rfl|rfl|⟨m,b,len,xs,rfl,h2,h3,h4⟩
 ·exact ⟨[],⟨by simp,.inl ⟨rfl,rfl⟩⟩,by decide⟩
 ·exact ⟨[],⟨by simp,.inr ⟨_,_,rfl,.inl rfl⟩⟩,by decide⟩
 ·obtain ⟨l,rfl,rfl,hb⟩:=znd (by kernel_rfl) (by kernel_rfl) len xs h4
  exact ⟨l,⟨hb,.inr ⟨_,_,rfl,.inr ⟨rfl,fun i x hx=>by rw [zbw h3];simp [hx]⟩⟩⟩,by simpa [maxLen] using h2⟩
theorem Byts.le (h:Byts H v l) (hl:H.le G):Byts G v l:=by
 refine ⟨h.1,?_⟩
 rcases h.2 with h|⟨a,c,h1,h2|⟨h2,h3⟩⟩
 ·exact .inl h
 ·exact .inr ⟨a,c,h1,.inl h2⟩
 ·exact .inr ⟨a,c,h1,.inr ⟨h2,fun i x hx=>AHeap.cell_le hl (h3 i x hx)⟩⟩
theorem Byts.one (h:Byts H v l):v.oneCell'=true:=by
 rcases h.2 with ⟨rfl,_⟩|⟨a,c,rfl,_⟩ <;> rfl
theorem Byts.len (h:Byts H v l) {K:Nat→Prop} (k:K l.length):lenK v K:=by
 rcases h.2 with ⟨rfl,rfl⟩|⟨a,c,rfl,_⟩
 ·exact k
 ·exact k
theorem Byts.rd (h:Byts H v l) {i:Int} (h0:0≤i) (h1:i<l.length) {K:Int→Prop} (k:∀ x,0≤x→x≤255→K x):idxK v i 1 (fun b o=>ldI .u8 H b o K):=by
 rcases h.2 with ⟨rfl,rfl⟩|⟨a,c,rfl,h2|⟨h2,h3⟩⟩
 ·simp at h1;omega
 ·subst h2;simp at h1;omega
 ·obtain ⟨b,o,sp⟩:=a
  simp only at h2 h3
  subst h2
  have hi:i.toNat<l.length:=by omega
  have hx:=h3 i.toNat l[i.toNat] (List.getElem?_eq_getElem hi)
  have hr:=h.1 l[i.toNat] (List.getElem_mem hi)
  exact ⟨h0,h1,zap (by rw [Nat.mul_one];exact hx) (k _ hr.1 hr.2)⟩
def Src (Hb:AHeap) (bs:Nat) (G:AHeap):Prop:=Hb.le G∧Hb.length≤bs∧∃ cv l a h,Byts Hb cv l∧l.length≤4096∧Own G bs 121 [cv,.int .i64 a,.int .u64 h]∧0≤a∧a≤l.length
theorem Src.le (h:Src Hb bs H) (hl:H.le G):Src Hb bs G:=by
 obtain ⟨h1,h2,cv,l,a,x,h3,h4,h5,h6,h7⟩:=h
 exact ⟨AHeap.le_trans h1 hl,h2,cv,l,a,x,h3,h4,h5.le hl,h6,h7⟩
theorem Src.put {a' h':Int} (hs:Hb.le H) (h2:Hb.length≤bs) {cv:Value} (hb:Byts Hb cv l) (h4:l.length≤4096) (b2:But bs H G) (o2:Own G bs 121 [cv,.int .i64 a',.int .u64 h']) (h6:0≤a') (h7:a'≤l.length):Src Hb bs G:=
 ⟨b2.le hs h2,h2,cv,l,a',h',hb,h4,o2,h6,h7⟩
theorem zav {n:Int} (hs:Src Hb bs H) (k:∀ r G,Kb bs H G→Src Hb bs G→0≤r→(1≤n→r<n)→(n<1→r=0)→K (.int .i64 r) G):AC Tryz.prog T0 60 [.pointer (some ⟨bs,0,none⟩),.int .i64 n] H K:=by
 obtain ⟨h1,h2,cv,l,a,x,hB,h4,ho,h6,h7⟩:=id hs
 apply F60.ac
 unfold F60.B9 F60.B8
 refine zaa (fun hb=>?_) fun hb=>?_
 ·have:=of_decide_eq_true hb
  unfold F60.B7
  exact k 0 H .refl hs (by omega) (fun h=>by omega) fun _=>rfl
 have hn:1≤n:=by have:=of_decide_eq_false hb;omega
 have hn0:n≠0:=by omega
 unfold F60.B6
 refine zbi (zaq (zac ho rfl (zbi (zaq (zaO ho (by simp) rfl fun G1 b1 o1=>?_)))))
 obtain ⟨h',hh'⟩:∃ h',h'=IntKind.u64.wrap (IntKind.u64.wrap (x*6364136223846793005)+1442695040888963407):=⟨_,rfl⟩
 rw [← hh'] at o1
 have o1:Own G1 bs 121 [cv,.int .i64 a,.int .u64 h']:=o1
 have s1:Src Hb bs G1:=Src.put h1 h2 hB h4 b1 o1 h6 h7
 have hBG:=hB.le s1.1
 unfold F60.B5
 refine zbi (zaq (zac o1 rfl ⟨by decide,?_⟩))
 have hx:∃ y:Nat,y<2^24∧IntKind.i64.wrap (IntKind.u64.wrap (BitVec.ofInt 64 (Int.fdiv h' (2^(min (Int.toNat 33) 64)))&&&BitVec.ofInt 64 16777215).toNat)=(y:Int):=by
  have hlt:(BitVec.ofInt 64 (Int.fdiv h' (2^(min (Int.toNat 33) 64)))&&&BitVec.ofInt 64 16777215).toNat<2^24:=by
   rw [BitVec.toNat_and]
   exact Nat.lt_of_le_of_lt Nat.and_le_right (by decide)
  refine ⟨_,hlt,?_⟩
  rw [zbh (by omega),zad (by omega) (by omega)]
 obtain ⟨y,hy,hyx⟩:=hx
 have fin:∀ (x5:Int) G2,0≤x5→Kb bs H G2→Src Hb bs G2→F60.B1 K n x5 G2:=fun x5 G2 h0 kb s2=>by
  unfold F60.B1
  refine zay (by simpa using hn0) ?_
  refine k _ G2 kb s2 ?_ (fun _=>?_) fun h=>by omega
  ·exact Int.tmod_nonneg _ h0
  ·exact Int.tmod_lt_of_pos _ (by omega)
 unfold F60.B4
 refine zbi (zaq (zac o1 rfl (zbi (zaq (zab o1 rfl (hBG.len (zaa (fun hc=>?_) fun hc=>?_)))))))
 ·have hal:a<l.length:=of_decide_eq_true hc
  unfold F60.B3
  refine zbi (zaq (zab o1 rfl (zbi (zaq (zac o1 rfl (hBG.rd h6 hal fun z z0 z1=>?_))))))
  unfold F60.B2
  refine zbi (zaq (zac o1 rfl (zbi (zaq (zaO o1 (by simp) rfl fun G2 b2 o2=>?_)))))
  rw [zad (x:=a+1) (by omega) (by omega)] at o2
  refine fin _ G2 ?_ (b1.kb.trans b2.kb) (Src.put s1.1 h2 hB h4 b2 o2 (by omega) (by omega))
  show 0≤IntKind.i64.wrap (IntKind.i64.wrap _+IntKind.i64.wrap z)
  rw [hyx,zad (x:=z) (by omega) (by omega),zad (by omega) (by omega)];omega
 ·refine fin _ G1 ?_ b1.kb s1
  rw [hyx];omega
theorem zbf (hs:Src Hb bs H) (hl:Ints H w l) (h0:0<l.length) (hll:l.length≤1000000) (hw:∀ x∈l,-4611686018427387904≤x∧x≤4611686018427387904) (hdis:∀ G,Kb bs H G→Ints G w l) (k:∀ r G,Kb bs H G→Src Hb bs G→r∈l→K (.int .i64 r) G):AC Tryz.prog T0 78 [.pointer (some ⟨bs,0,none⟩),w] H K:=by
 apply F78.ac
 unfold F78.B2 F78.B1
 refine hl.len (zav hs fun r G kb s2 r0 r1 _=>zag ((hdis G kb).rd r0 (r1 (by omega)) ?_))
 have hr:=r1 (by omega)
 refine k _ G kb s2 ?_
 rw [zae (by omega)];exact List.getElem_mem _
end Go.Proofs
namespace Go.Proofs
open Go.Abs

variable {B H G G':AHeap} {b N:Nat} {L S M:List (Int × Int)} {cmp:Value} {c:(Int × Int)→(Int × Int)→Int} {dom:(Int × Int)→Prop} {K:Value→AHeap→Prop}

end Go.Proofs
namespace Go.Proofs
open Go.Abs

variable {B H G G':AHeap} {b N:Nat} {L S M:List (Int × Int)} {cmp:Value} {c:(Int × Int)→(Int × Int)→Int} {dom:(Int × Int)→Prop} {K:Value→AHeap→Prop}

end Go.Proofs
namespace Go.Proofs
open Go.Abs

variable {B H G G':AHeap} {b N:Nat} {L S M:List (Int × Int)} {cmp:Value} {c:(Int × Int)→(Int × Int)→Int} {dom:(Int × Int)→Prop} {K:Value→AHeap→Prop}

end Go.Proofs
namespace Go.Proofs
open Go.Abs

variable {B H G G':AHeap} {b N:Nat} {L S M:List (Int × Int)} {cmp:Value} {c:(Int × Int)→(Int × Int)→Int} {dom:(Int × Int)→Prop} {K:Value→AHeap→Prop}

end Go.Proofs
namespace Go.Proofs
open Go.Abs

variable {H G:AHeap} {v u f w:Value} {es fs S:List (Int × Int)} {K:Value→AHeap→Prop}

section
variable {α:Type} {d:α} {c:α→α→Int} {S:List α} {j:Nat} {x:α}
theorem zpa (hc:Cmp c) (hS:S.Pairwise (LeC c)) (hj:j≤S.length) (h1:∀ q,j≤q→q<S.length→c x (S.getD q d)<0) (h2:j=0∨¬ c x (S.getD (j-1) d)<0):(S.take j++([x]++S.drop j)).Pairwise (LeC c):=by
 have hS':=hS
 rw [← List.take_append_drop j S,List.pairwise_append] at hS'
 obtain ⟨p1,p2,p3⟩:=hS'
 rw [List.pairwise_append]
 refine ⟨p1,?_,fun a ha b hb=>?_⟩
 ·rw [List.singleton_append,List.pairwise_cons]
  refine ⟨fun b hb=>?_,p2⟩
  obtain ⟨i,hi,rfl⟩:=List.getElem_of_mem hb
  rw [List.length_drop] at hi
  have:=h1 (j+i) (by omega) (by omega)
  rw [zae (by omega)] at this
  rw [List.getElem_drop];exact hc.lt this
 ·rw [List.singleton_append,List.mem_cons] at hb
  rcases hb with rfl|hb
  ·obtain ⟨i,hi,rfl⟩:=List.getElem_of_mem ha
   rw [List.length_take] at hi
   rw [List.getElem_take]
   rcases h2 with h2|h2
   ·omega
   ·rw [zae (by omega)] at h2
    by_cases e:i=j-1
    ·subst e;exact h2
    ·exact hc.tr _ _ _ ((List.pairwise_iff_getElem.1 hS) i (j-1) (by omega) (by omega) (by omega)) h2
  ·exact p3 a ha b hb
theorem zuy:(S.take j++([x]++S.drop j)).Perm (S++[x]):=by
 have h1:(S.take j++([x]++S.drop j)).Perm (S.take j++(S.drop j++[x])):=List.Perm.append_left _ List.perm_append_comm
 have e:S.take j++(S.drop j++[x])=S++[x]:=by rw [← List.append_assoc,List.take_append_drop]
 rw [← e];exact h1
end
theorem zfy:Cmp cmpE:=⟨fun x y z h1 h2=>by
 rw [zc5] at *;unfold ltE at *;omega,fun x y h=>by rw [zc5] at *;unfold ltE at *;omega⟩
def nrmE (e:Int × Int):Int × Int:=(if e.2<e.1 then e.2 else e.1,if e.2>e.1 then e.2 else e.1)
noncomputable def srtE (l:List (Int × Int)):List (Int × Int):=l.mergeSort fun a b=>decide (LeC cmpE a b)
theorem zdK (l:List (Int × Int)):(srtE l).Perm l:=List.mergeSort_perm _ _
theorem zlA {l:List (Int × Int)} (h1:S.Pairwise (LeC cmpE)) (h2:S.Perm l):S=srtE l:=by
 refine zfT (le:=LeC cmpE) (fun a b h1 h2=>?_) h1 ?_ (h2.trans (zdK l).symm)
 ·have e1:¬ ltE b a:=fun h=>h1 ((zc5 _ _).2 h)
  have e2:¬ ltE a b:=fun h=>h2 ((zc5 _ _).2 h)
  unfold ltE at e1 e2
  exact Prod.ext (by omega) (by omega)
 ·have:=List.pairwise_mergeSort (le:=fun a b=>decide (LeC cmpE a b)) (fun a b c h1 h2=>by
   rw [decide_eq_true_iff] at *;exact zfy.tr _ _ _ h1 h2) (fun a b=>by
   by_cases h:cmpE a b<0
   ·rw [Bool.or_eq_true];left;exact decide_eq_true (zfy.lt h)
   ·rw [Bool.or_eq_true];right;exact decide_eq_true h) l
  exact this.imp fun h=>of_decide_eq_true h
theorem zcp (l:List (Int × Int)):(srtE l).length=l.length:=(zdK l).length_eq
theorem zlY {m0:Nat} (h:Fresh m0 H v 66 2 (LE es)) (hl:0<es.length):∃ b,m0≤b∧v=.slice (some ⟨b,0,none⟩) es.length (es.length+1)∧Own H b 66 (LE es):=by
 rcases h with ⟨h0,_⟩|⟨b,n,hb,rfl,h3,h4⟩
 ·have:=congrArg List.length h0;rw [zaI,List.length_nil] at this;omega
 ·rw [zaI] at h4
  have hn:n=es.length:=by omega
  subst hn
  exact ⟨b,hb,rfl,h3⟩
theorem zlb {b n:Nat} {x:Int} {K:Nat→Nat→Prop} (h0:0≤x) (h1:x<n) (k:K b (x.toNat*2)):idxK (.slice (some ⟨b,0,none⟩) n (n+1)) x 2 K:=⟨h0,h1,by simpa using k⟩
theorem zqj {b n j:Nat} {K:Int→Int→Prop} (o:Own H b 66 (LE S)) (hn:S.length=n) (hj:j<n) (k:K (S.getD j (0,0)).1 (S.getD j (0,0)).2):idxK (.slice (some ⟨b,0,none⟩) n (n+1)) (j:Int) 2 (fun b o=>ldI .i64 H b o fun p=>ldI .i64 H b (o+1) fun q=>K p q):=by
 obtain ⟨g1,g2⟩:=zju S j (S.getD j (0,0)) (by rw [zae (by omega)];exact List.getElem?_eq_getElem (by omega))
 refine zlb (by omega) (by omega) ?_
 rw [Int.toNat_natCast]
 exact zac o g1 (zac o g2 k)
theorem zp1 {b n j:Nat} {x:Int × Int} {K:AHeap→Prop} (o:Own H b 66 (LE S)) (hn:S.length=n) (hj:j<n) (k:∀ G,But b H G→Own G b 66 (LE (S.set j x))→K G) :
 idxK (.slice (some ⟨b,0,none⟩) n (n+1)) (j:Int) 2 (fun b o=>stK H b o [.int .i64 x.1,.int .i64 x.2] K):=by
 have LL:=zaI S
 refine zlb (by omega) (by omega) (zaG (new:=LE (S.set j x)) o (by rw [LL,Int.toNat_natCast];show j*2+2≤_;omega) (by simp [Value.oneCell']) (by rw [Int.toNat_natCast];exact znf S x (by omega)) k)
theorem zrb (h:Edges H v es) (hl:es.length≤1048576) (k:∀ v' G,H.le G→Fresh H.length G v' 66 2 (LE (srtE (es.map nrmE)))→K v' G):AC Tryz.prog T0 192 [v] H K:=by
 apply F192.ac
 unfold F192.B14 F192.B13
 refine zaf rfl fun H1 l1 n1 o1=>?_
 unfold F192.B12 F192.L2
 refine ⟨fun x0 x3 x4 G=>v=x0∧H.le G∧∃ (i bo:Nat) (S:List (Int × Int)),x4=i∧i≤es.length∧H.length≤bo∧x3=.slice (some ⟨bo,0,none⟩) S.length (S.length+1)∧Own G bo 66 (LE S)∧S.Pairwise (LeC cmpE)∧S.Perm ((es.take i).map nrmE),
  fun _ _ x4 _=>es.length-x4.toNat,⟨rfl,l1,0,H.length,[],rfl,by omega,Nat.le_refl _,rfl,o1,List.Pairwise.nil,by simp⟩,?_⟩
 rintro x0 x3 x4 G ⟨rfl,lG,i,bo,S,rfl,hi,hbo,rfl,oS,sS,pS⟩
 have hSl:S.length=i:=by have:=pS.length_eq;rw [List.length_map,List.length_take] at this;omega
 unfold F192.B11
 refine (h.le lG).len (zaa (fun hb=>?_) fun hb=>?_)
 rotate_left
 ·have hil:i=es.length:=by have:=of_decide_eq_false hb;omega
  subst hil
  rw [List.take_length] at pS
  unfold F192.B1
  refine k _ G lG (.inr ⟨bo,S.length,hbo,rfl,?_,?_⟩)
  ·rw [← zlA sS pS];exact oS
  ·rw [← zlA sS pS,zaI]
 have hil:i<es.length:=by have:=of_decide_eq_true hb;omega
 obtain ⟨eb,eo,hk,c1,c2⟩:=(h.le lG).idx (show (0:Int)≤i by omega) (by omega)
 simp only [Int.toNat_natCast] at c1 c2
 obtain ⟨e,he⟩:∃ e,e=nrmE (es.getD i (0,0)):=⟨_,rfl⟩
 have hbl:=oS.lt
 unfold F192.B10
 refine hk _ (zap c1 (hk _ (zap c2 (hk _ (zap c1 (hk _ (zap c2 (zba (zaf rfl fun G1 l1' n1' o1'=>zaG (new:=[.int .i64 e.1,.int .i64 e.2]) o1' (by simp) (by simp [Value.oneCell']) (by rw [he];rfl) fun G2 b2 o2=>?_)))))))))
 have l2:G.le G2:=b2.le l1' (Nat.le_refl _)
 have lG2:=AHeap.le_trans lG l2
 have oS2:=oS.le l2
 unfold F192.B9
 refine zac o2 rfl (zac o2 rfl ?_)
 refine Sl.pushN (m:=H.length) zkB (by decide) (Fresh.sl (.inr ⟨bo,S.length,hbo,rfl,oS2,zaI S⟩)) lG2.1 (n:=1) (ys:=[.int .i64 e.1,.int .i64 e.2]) rfl rfl (by rw [zaI];simp;omega) (by simp) fun v' G3 k3 ot3 nb3 f3=>?_
 have f3:Fresh H.length G3 v' 66 2 (LE (S++[e])):=by rw [zd7];exact f3
 obtain ⟨b3,hb3,rfl,o3⟩:=zlY f3 (by simp)
 have hn3:G2.length≤b3:=nb3 b3 rfl
 have lG3:H.le G3:=k3.le lG2 (Nat.le_refl _)
 have ox3:Own G3 G.length 66 [.int .i64 e.1,.int .i64 e.2]:=ot3 _ _ (fun hv=>by cases hv;omega) o2
 have hlen3:(S++[e]).length=S.length+1:=by simp
 rw [hlen3]
 unfold F192.L5
 refine ⟨fun x0 x3 x4 x5 x6 G'=>v=x0∧.slice (some ⟨b3,0,none⟩) (S.length+1) (S.length+1+1)=x3∧(i:Int)=x4∧G.length=x5∧H.le G'∧Own G' G.length 66 [.int .i64 e.1,.int .i64 e.2]∧∃ (j:Nat) (g:Int × Int),x6=j∧j≤S.length∧Own G' b3 66 (LE (S.take j++([g]++S.drop j)))∧∀ q,j≤q→q<S.length→cmpE e (S.getD q (0,0))<0,
  fun _ _ _ _ x6 _=>x6.toNat,⟨rfl,rfl,rfl,rfl,lG3,ox3,S.length,e,rfl,Nat.le_refl _,by rw [List.take_length,List.drop_length,List.append_nil];exact o3,fun q h1 h2=>by omega⟩,?_⟩
 clear ox3 o3 f3 ot3 nb3 lG3 k3
 rintro x0 x3 x4 x5 x6 G' ⟨rfl,rfl,rfl,rfl,lG',oe,j,g,rfl,hj,oj,hgt⟩
 have hbG:G.length<b3:=by have:=b2.len;omega
 obtain ⟨T,hT⟩:∃ T,T=S.take j++([g]++S.drop j):=⟨_,rfl⟩
 have hTl:T.length=S.length+1:=by rw [hT];simp [Nat.min_eq_left hj];omega
 have hTj:∀ x,T.set j x=S.take j++([x]++S.drop j):=fun x=>by
  rw [hT,List.set_append_right _ _ (by simp;omega)]
  simp [Nat.min_eq_left hj]
 rw [← hT] at oj
 have next:(j=0∨¬ cmpE e (S.getD (j-1) (0,0))<0)→∀ G',H.le G'→Own G' b3 66 (LE T)→Own G' G.length 66 [.int .i64 e.1,.int .i64 e.2]→F192.B4 K (fun z0 z3 z4 G''=>(v=z0∧H.le G''∧∃ (i bo:Nat) (S:List (Int × Int)),z4=i∧i≤es.length∧H.length≤bo∧z3=.slice (some ⟨bo,0,none⟩) S.length (S.length+1)∧Own G'' bo 66 (LE S)∧S.Pairwise (LeC cmpE)∧S.Perm ((es.take i).map nrmE))∧es.length-z4.toNat<es.length-(i:Int).toNat) v (.slice (some ⟨b3,0,none⟩) (S.length+1) (S.length+1+1)) i G.length j G':=by
  intro hst G' lG' oj oe
  unfold F192.B4
  refine zac oe rfl (zac oe rfl (zp1 (x:=e) oj hTl (by omega) fun G5 b5 o5=>?_))
  rw [hTj] at o5
  unfold F192.B3
  rw [zad (by omega) (by omega)]
  have hlen:(S.take j++([e]++S.drop j)).length=S.length+1:=by simp [Nat.min_eq_left hj];omega
  refine ⟨⟨rfl,b5.le lG' hb3,i+1,b3,_,by omega,by omega,hb3,by rw [hlen],o5,zpa (d:=(0,0)) zfy sS hj hgt hst,zuy.trans ?_⟩,by omega⟩
  rw [List.take_succ_eq_append_getElem hil,List.map_append,List.map_singleton,he,zae hil]
  exact pS.append_right _
 unfold F192.B8
 refine zaa (fun hb=>?_) fun hb=>next (.inl (by have:=of_decide_eq_false hb;omega)) G' lG' oj oe
 have hj0:0<j:=by have:=of_decide_eq_true hb;omega
 have hT1:T.getD (j-1) (0,0)=S.getD (j-1) (0,0):=by
  rw [hT]
  simp [List.getD,List.getElem?_append_left (show j-1<(S.take j).length by simp;omega),List.getElem?_take_of_lt (show j-1<j by omega)]
 have w1:IntKind.i64.wrap ((j:Int)-1)=((j-1:Nat):Int):=wr (by omega) (by omega)
 rw [w1]
 refine zac oe rfl (zac oe rfl (zqj (j:=j-1) oj hTl (by omega) ?_))
 rw [hT1]
 refine zhA (a:=e) (b:=S.getD (j-1) (0,0)) fun G5 l5=>zai (zaa (fun hq=>?_) fun hq=>?_)
 ·have hlt:=(zc5 _ _).2 (of_decide_eq_true hq)
  have oj5:=oj.le l5
  unfold F192.B7
  rw [w1]
  refine zqj (j:=j-1) oj5 hTl (by omega) ?_
  rw [hT1]
  refine zp1 (x:=S.getD (j-1) (0,0)) oj5 hTl (by omega) fun G6 b6 o6=>?_
  rw [hTj] at o6
  unfold F192.B6
  rw [w1]
  refine ⟨⟨rfl,rfl,rfl,rfl,b6.le (AHeap.le_trans lG' l5) hb3,b6.own (oe.le l5) (by omega),j-1,S.getD (j-1) (0,0),rfl,by omega,?_,fun q h1 h2=>?_⟩,?_⟩
  ·have e1:S.take (j-1)++([S.getD (j-1) (0,0)]++S.drop (j-1))=S.take j++([S.getD (j-1) (0,0)]++S.drop j):=by
    obtain ⟨j',rfl⟩:∃ j',j=j'+1:=⟨j-1,by omega⟩
    rw [Nat.add_sub_cancel,zae (show j'<S.length by omega),List.drop_eq_getElem_cons (show j'<S.length by omega),List.take_succ_eq_append_getElem (show j'<S.length by omega),List.append_assoc]
    rfl
   rw [e1];exact o6
  ·by_cases e2:q=j-1
   ·subst e2;exact hlt
   ·exact hgt q (by omega) h2
  ·show ((j-1:Nat):Int).toNat<((j:Nat):Int).toNat
   omega
 ·exact next (.inr fun hc=>of_decide_eq_false hq ((zc5 _ _).1 hc)) G5 (AHeap.le_trans lG' l5) (oj.le l5) (oe.le l5)
theorem zaw {m0:Nat} (h:Fresh m0 H v 66 2 (LE es)):v.oneCell'=true:=zah h.edges
theorem zdX {n:Int} (h:Edges H v es) (hl:es.length≤1048576) (k:∀ v' G,H.le G→Fresh H.length G v' 66 2 (LE (srtE (es.map nrmE)))→K (.agg ⟨[.int .i64 n,v']⟩) G):AC Tryz.prog T0 158 [.int .i64 n,v] H K:=by
 apply F158.ac
 unfold F158.B2
 refine zaf rfl fun H1 l1 n1 o1=>?_
 unfold F158.B1
 refine zrb (h.le l1) hl fun v' G l2 f2=>zay (zaw f2) (zaG (new:=[.int .i64 n,v']) (o1.le l2) (by simp) (zaT (zaw f2)) rfl fun G3 b3 o3=>zac o3 rfl (zab o3 rfl ?_))
 have hl1:=l1.1
 exact k v' G3 (b3.le (AHeap.le_trans l1 l2) (Nat.le_refl _)) ((f2.but b3 (by omega)).less hl1)
end Go.Proofs
namespace Go.Proofs
open Go.Abs

variable {H G:AHeap} {v u f w:Value} {es fs S:List (Int × Int)} {l:List Int} {K:Value→AHeap→Prop}

theorem ziP (l:List (Int × Int)):(srtE l).Pairwise (LeC cmpE):=by
 have:=List.pairwise_mergeSort (le:=fun a b=>decide (LeC cmpE a b)) (fun a b c h1 h2=>by
  rw [decide_eq_true_iff] at *;exact zfy.tr _ _ _ h1 h2) (fun a b=>by
  by_cases h:cmpE a b<0
  ·rw [Bool.or_eq_true];left;exact decide_eq_true (zfy.lt h)
  ·rw [Bool.or_eq_true];right;exact decide_eq_true h) l
 exact this.imp fun h=>of_decide_eq_true h
theorem zcz {m0:Nat} {x:Int × Int} (hF:Fresh m0 H v 66 2 (LE es)) (hm:m0≤H.length) (hs:es.length<1000000)
 (k:∀ v' G,Keep m0 H G→Oth v H G→(∀ b,bk v'=some b→H.length≤b)→Fresh m0 G v' 66 2 (LE (es++[x]))→K v' G) :
 newK H [.int .i64 x.1,.int .i64 x.2] 66 (fun b1 H2=>apK T0 66 H2 v (.slice (some ⟨b1,0,none⟩) 1 (1+1)) K):=by
 refine hF.sl.pushN zkB (by decide) hm (n:=1) (ys:=[.int .i64 x.1,.int .i64 x.2]) rfl rfl (by rw [zaI];simp;omega) (by simp) fun v' G k1 ot nb f=>k v' G k1 ot nb ?_
 rw [zd7];exact f
theorem zod (h:Edges H v es):cellsAt H v 2 es.length (LE es):=by
 rcases h with ⟨rfl,rfl⟩|⟨a,c,rfl,h⟩
 ·exact ⟨rfl,none,0,rfl,.inl rfl⟩
 ·refine ⟨zaI es,some a,c,rfl,?_⟩
  rcases h with rfl|⟨h1,h2⟩
  ·exact .inl rfl
  ·refine .inr ⟨a.block,a.off,by cases a;simp at h1;subst h1;rfl,fun i x hx=>?_⟩
   have hi:=zaj hx
   rw [zaI] at hi
   obtain ⟨g1,g2⟩:=h2 (i/2) (es.getD (i/2) (0,0)) (by rw [zae (by omega)];exact List.getElem?_eq_getElem (by omega))
   obtain ⟨q1,q2⟩:=zju es (i/2) (es.getD (i/2) (0,0)) (by rw [zae (by omega)];exact List.getElem?_eq_getElem (by omega))
   rcases (by omega:i=i/2*2∨i=i/2*2+1) with e|e
   ·rw [e,q1] at hx
    rw [e];cases hx;exact g1
   ·rw [e,q2] at hx
    rw [e];cases hx;exact g2
theorem zd1 {m0:Nat} (hs:Sl m0 H v 66 2 (LE es)) (hm:m0≤H.length) (h:Edges H u fs) (h0:0<fs.length) (hl:es.length+fs.length≤1000000) (k:∀ v' G,Keep m0 H G→Oth v H G→Fresh m0 G v' 66 2 (LE (es++fs))→K v' G):apK T0 66 H v u K:=by
 refine hs.app zkB (by decide) hm (zod h) (by rw [zaI,zaI];omega) (fun e=>?_) fun v' G k1 ot nb f=>k v' G k1 ot (by rw [zd7];exact f)
 have:=congrArg List.length e;rw [zaI,List.length_nil] at this;omega
end Go.Proofs
namespace Go.Proofs
open Go.Abs

variable {es fs:List (Int × Int)} {n:Int} {D:List Int}

def onN (es:List (Int × Int)) (v:Nat):Nat:=(es.filter fun e=>on e (v:Int)).length
theorem zvO {es fs:List (Int × Int)} (h:es.Perm fs) (v:Nat):onN es v=onN fs v:=by
 unfold onN;exact (h.filter _).length_eq
theorem zy6 (a b:List (Int × Int)) (v:Nat):onN (a++b) v=onN a v+onN b v:=by
 unfold onN;rw [List.filter_append,List.length_append]
theorem zh1 (a:Int × Int) (b:List (Int × Int)) (v:Nat):onN (a::b) v=(if on a (v:Int) then 1 else 0)+onN b v:=by
 unfold onN
 rw [List.filter_cons]
 by_cases h:on a (v:Int)=true <;> simp [h] <;> omega
theorem zti (es:List (Int × Int)) (v:Nat):(atL es (v:Int)).length=onN es v:=by
 have key:∀ k,k≤es.length→(atTo es (v:Int) k).length=onN (es.take k) v:=by
  intro k
  induction k with
  | zero=>intro _;simp [atTo,onN]
  | succ k ih=>
   intro hk
   rw [zd5,List.length_append,ih (by omega),List.take_succ_eq_append_getElem (by omega),zy6,← zae (d:=(0,0)) (by omega),zh1]
   have nil:onN [] v=0:=rfl
   rw [nil]
   by_cases h:on (es.getD k (0,0)) (v:Int)=true
   ·rw [if_pos h,if_pos h];rfl
   ·rw [if_neg h,if_neg h];rfl
 have:=key es.length (Nat.le_refl _)
 rw [List.take_length] at this
 exact this
theorem ztQ (hd:IsEd n es) {v:Nat} (hv:(v:Int)<n):(counts n es).getD v 0=(onN es v:Nat):=by
 have:=zmL hd hv es.length (Nat.le_refl _)
 rw [List.take_length] at this
 rw [this,← zti];rfl
theorem zAg (hd:IsEd n es) (hu:∀ e∈es,e.1<e.2) (hs:Srt es) (h3:∀ v:Nat,(v:Int)<n→onN es v=3):IsG n es:=by
 refine ⟨hd,hu,hs,fun c hc=>?_⟩
 obtain ⟨i,hi,rfl⟩:=List.getElem_of_mem hc
 have hl:=hi
 rw [zbI] at hl
 have:=ztQ hd (v:=i) (by omega)
 rw [zae hi] at this
 rw [this,h3 i (by omega)];rfl
theorem on3 (hg:IsG n es) {v:Nat} (hv:(v:Int)<n):onN es v=3:=by
 rw [← zti];exact hg.three (by omega) hv
theorem zwv (l:List (Int × Int)):Srt (srtE l):=by
 intro i hi
 have:=ziP l
 rw [List.pairwise_iff_getElem] at this
 have h:=this i (i+1) (by omega) hi (by omega)
 rw [zae hi,zae (by omega)]
 intro hlt
 exact h ((zc5 _ _).2 hlt)
def endsE:List (Int × Int)→List Int
 | []=>[]
 | e::es=>e.1::e.2::endsE es
theorem znE:∀ (a b:List (Int × Int)),endsE (a++b)=endsE a++endsE b
 | [],_=>rfl
 | e::a,b=>by rw [List.cons_append,endsE,endsE,znE a b];rfl
theorem zlB (v:Nat):∀ es:List (Int × Int),(∀ e∈es,e.1≠e.2)→onN es v=(endsE es).count (v:Int)
 | [],_=>rfl
 | e::es,h=>by
  have he:=h e (by simp)
  rw [zh1,endsE,List.count_cons,List.count_cons,zlB v es fun x hx=>h x (by simp [hx])]
  unfold on
  by_cases h1:e.1=(v:Int)
  ·have h2:¬ e.2=(v:Int):=fun h=>he (h1.trans h.symm)
   simp [h1,h2];omega
  ·by_cases h2:e.2=(v:Int)
   ·simp [h1,h2];omega
   ·simp [h1,h2]
structure Cu (n:Int) (es:List (Int × Int)):Prop where
 lo:2≤n
 hi:n≤20
 even:n%2=0
 rng:∀ e∈es,0≤e.1∧e.1<n∧0≤e.2∧e.2<n∧e.1≠e.2
 len:2*(es.length:Int)=3*n
 on:∀ v:Nat,(v:Int)<n→(endsE es).count (v:Int)=3
theorem zzm (e:Int × Int) (v:Int):on (nrmE e) v=on e v:=by
 unfold on nrmE
 simp only
 by_cases h:e.2<e.1
 ·rw [if_pos h,if_neg (by omega),Bool.or_comm]
 ·rw [if_neg h]
  by_cases g:e.2>e.1
  ·rw [if_pos g]
  ·rw [if_neg g,show e.2=e.1 by omega]
theorem ztN (v:Nat):∀ es:List (Int × Int),onN (es.map nrmE) v=onN es v
 | []=>rfl
 | e::es=>by rw [List.map_cons,zh1,zh1,zzm,ztN v es]
theorem Cu.isG (h:Cu n es):IsG n (srtE (es.map nrmE)):=by
 have hlo:=h.lo;have hle:=h.len
 have hm:∀ x∈srtE (es.map nrmE),0≤x.1∧x.1<x.2∧x.2<n:=fun x hx=>by
  obtain ⟨e,he,rfl⟩:=List.mem_map.1 ((zdK _).mem_iff.1 hx)
  obtain ⟨h1,h2,h3,h4,h5⟩:=h.rng e he
  unfold nrmE
  simp only
  by_cases q:e.2<e.1
  ·rw [if_pos q,if_neg (by omega)];exact ⟨h3,q,h2⟩
  ·rw [if_neg q,if_pos (by omega)];exact ⟨h1,by omega,h4⟩
 refine zAg ⟨h.lo,h.hi,h.even,?_,fun x hx=>?_⟩ (fun x hx=>(hm x hx).2.1) (zwv _) fun v hv=>?_
 ·rw [zcp,List.length_map];omega
 ·have:=hm x hx;omega
 ·rw [zvO (zdK _),ztN,zlB v es fun e he=>(h.rng e he).2.2.2.2]
  exact h.on v hv
theorem IsG.cu (h:IsG n es):Cu n es:=by
 have hl:=h.ed.len;have he:=h.ed.even
 refine ⟨h.ed.lo,h.ed.hi,h.ed.even,fun e he=>?_,by omega,fun v hv=>?_⟩
 ·obtain ⟨h1,h2,h3,h4,h5⟩:=h.ed.ends e he
  exact ⟨h1,by omega,h3,by omega,h5⟩
 ·rw [← zlB v es fun e he=>(h.ed.ends e he).2.2.2.2]
  exact on3 h hv
theorem zjp {n:Nat} {es:List (Int × Int)} (h:(decide (2≤n∧n≤20∧n%2=0∧2*es.length=3*n)&&es.all (fun e=>decide (0≤e.1∧e.1<n∧0≤e.2∧e.2<n∧e.1≠e.2))&&(List.range n).all fun v=>(endsE es).count (v:Int)==3)=true):Cu n es:=by
 simp only [Bool.and_eq_true,decide_eq_true_eq,List.all_eq_true,List.mem_range,beq_iff_eq] at h
 obtain ⟨⟨⟨h1,h2,h3,h4⟩,h5⟩,h6⟩:=h
 exact ⟨by omega,by omega,by omega,h5,by omega,fun v hv=>h6 v (by omega)⟩
def PmL (D:List Int) (N:Nat):Prop:=D.Perm ((List.range N).map Int.ofNat)
theorem PmL.len {N:Nat} (h:PmL D N):D.length=N:=by rw [h.length_eq];simp
theorem PmL.rng {N:Nat} (h:PmL D N) {x:Int} (hx:x∈D):0≤x∧x<N:=by
 obtain ⟨i,hi,rfl⟩:=List.mem_map.1 (h.mem_iff.1 hx)
 rw [List.mem_range] at hi
 show 0≤(i:Int)∧(i:Int)<N;omega
theorem PmL.put {N r:Nat} (h:PmL D N):PmL (D.take r++[(N:Int)]++D.drop r) (N+1):=by
 unfold PmL
 rw [List.range_succ,List.map_append]
 refine List.Perm.trans ?_ (List.Perm.append_right _ h)
 have e:D++[(N:Int)]=(D.take r++D.drop r)++[(N:Int)]:=by rw [List.take_append_drop]
 rw [show List.map Int.ofNat [N]=[(N:Int)] from rfl,e,List.append_assoc,List.append_assoc]
 exact List.Perm.append_left _ List.perm_append_comm
theorem PmL.nodup {N:Nat} (h:PmL D N):D.Nodup:=h.nodup_iff.2 (List.Pairwise.map _ (fun a b hab e=>hab (Int.ofNat.inj e)) List.nodup_range)
theorem PmL.inj {N i j:Nat} (h:PmL D N) (hi:i<N) (hj:j<N) (e:D.getD i 0=D.getD j 0):i=j:=by
 have hl:=h.len
 rw [zae (by omega),zae (by omega)] at e
 exact (List.getElem_inj h.nodup).1 e
theorem PmL.onto {N v:Nat} (h:PmL D N) (hv:v<N):∃ i,i<N∧D.getD i 0=(v:Int):=by
 have hm:(v:Int)∈D:=h.mem_iff.2 (List.mem_map.2 ⟨v,List.mem_range.2 hv,rfl⟩)
 obtain ⟨i,hi,e⟩:=List.getElem_of_mem hm
 have hl:=h.len
 exact ⟨i,by omega,by rw [zae hi,e]⟩
theorem znP {N v i:Nat} (h:PmL D N) (hi:i<N) (he:D.getD i 0=(v:Int)):∀ l:List Int,(∀ x∈l,0≤x∧x<N)→(l.map fun x=>D.getD x.toNat 0).count (v:Int)=l.count (i:Int)
 | [],_=>rfl
 | x::l,hl=>by
  have hx:=hl x (by simp)
  rw [List.map_cons,List.count_cons,List.count_cons,znP h hi he l fun y hy=>hl y (by simp [hy])]
  congr 1
  by_cases e:x=(i:Int)
  ·subst e
   rw [Int.toNat_natCast,he];simp
  ·have:¬ D.getD x.toNat 0=(v:Int):=fun h2=>e (by have:=h.inj (i:=x.toNat) (by omega) hi (h2.trans he.symm);omega)
   rw [beq_eq_false_iff_ne.2 this,beq_eq_false_iff_ne.2 e]
theorem zpu:∀ es:List (Int × Int),endsE (es.map fun e=>(D.getD e.1.toNat 0,D.getD e.2.toNat 0))=(endsE es).map fun x=>D.getD x.toNat 0
 | []=>rfl
 | e::es=>by rw [List.map_cons,endsE,endsE,zpu es];rfl
theorem zmY {P:Int→Prop}:∀ {es:List (Int × Int)},(∀ e∈es,P e.1∧P e.2)→∀ x∈endsE es,P x
 | [],_,x,hx=>by cases hx
 | e::es,h,x,hx=>by
  rw [endsE] at hx
  rcases List.mem_cons.1 hx with rfl|hx
  ·exact (h e (by simp)).1
  ·rcases List.mem_cons.1 hx with rfl|hx
   ·exact (h e (by simp)).2
   ·exact zmY (fun y hy=>h y (by simp [hy])) x hx
theorem Cu.ren (h:Cu n es) (hD:PmL D n.toNat):Cu n (es.map fun e=>(D.getD e.1.toNat 0,D.getD e.2.toNat 0)):=by
 have h2:=h.lo
 have hl:=hD.len
 refine ⟨h.lo,h.hi,h.even,fun e he=>?_,by rw [List.length_map];exact h.len,fun v hv=>?_⟩
 ·obtain ⟨a,ha,rfl⟩:=List.mem_map.1 he
  obtain ⟨r1,r2,r3,r4,r5⟩:=h.rng a ha
  have m1:=hD.rng (x:=D.getD a.1.toNat 0) (by rw [zae (by omega)];exact List.getElem_mem _)
  have m2:=hD.rng (x:=D.getD a.2.toNat 0) (by rw [zae (by omega)];exact List.getElem_mem _)
  refine ⟨m1.1,by omega,m2.1,by omega,fun e=>?_⟩
  have:=hD.inj (i:=a.1.toNat) (j:=a.2.toNat) (by omega) (by omega) e
  omega
 ·obtain ⟨i,hi,he⟩:=hD.onto (v:=v) (by omega)
  rw [zpu,znP hD hi he _ (fun x hx=>by
   have:=zmY (P:=fun x=>0≤x∧x<n) (fun e he=>⟨⟨(h.rng e he).1,(h.rng e he).2.1⟩,(h.rng e he).2.2.1,(h.rng e he).2.2.2.1⟩) x hx
   omega)]
  exact h.on i (by omega)
theorem zhq (v:Nat):∀ m:Nat,(((List.range (3*m)).map Int.ofNat).map (· / 3)).count (v:Int)=if v<m then 3 else 0
 | 0=>by simp
 | m+1=>by
  rw [show 3*(m+1)=3*m+1+1+1 by omega,List.range_succ,List.range_succ,List.range_succ]
  simp only [List.map_append,List.count_append,zhq v m,List.map_cons,List.map_nil]
  have q:∀ c:Nat,c<3→Int.ofNat (3*m+c)/3=(m:Int):=fun c hc=>by
   show ((3*m+c:Nat):Int)/3=(m:Int);omega
  have q0:=q 0 (by omega);have q1:=q 1 (by omega);have q2:=q 2 (by omega)
  rw [show Int.ofNat (3*m)/3=(m:Int) from q0,show Int.ofNat (3*m+1)/3=(m:Int) from q1,show Int.ofNat (3*m+1+1)/3=(m:Int) from q2]
  by_cases e:m=v
  ·subst e
   rw [if_neg (by omega),if_pos (by omega)];simp
  ·have:¬ (m:Int)=(v:Int):=by omega
   simp only [List.count_cons,List.count_nil,beq_iff_eq,this,↓reduceIte,Nat.add_zero]
   by_cases h:v<m
   ·rw [if_pos h,if_pos (by omega)]
   ·rw [if_neg h,if_neg (by omega)]
def prsE (D:List Int) (j:Nat):List (Int × Int):=(List.range j).map fun i=>(D.getD (2*i) 0/3,D.getD (2*i+1) 0/3)
theorem znu (D:List Int) (j:Nat):prsE D (j+1)=prsE D j++[(D.getD (2*j) 0/3,D.getD (2*j+1) 0/3)]:=by
 unfold prsE;rw [List.range_succ,List.map_append];rfl
theorem zvd (D:List Int) (j:Nat):(prsE D j).length=j:=by unfold prsE;simp
theorem zpC:∀ j,2*j≤D.length→endsE (prsE D j)=(D.take (2*j)).map (· / 3)
 | 0,_=>rfl
 | j+1,h=>by
  rw [znu,znE,zpC j (by omega),show 2*(j+1)=2*j+1+1 by omega,List.take_succ_eq_append_getElem (by omega),List.take_succ_eq_append_getElem (by omega),List.map_append,List.map_append,List.append_assoc,zae (by omega),zae (by omega)]
  rfl
theorem zzV {N:Nat} (hn:2≤n∧n≤20) (he:n%2=0) (hN:(N:Int)=3*n) (hD:PmL D N) {j:Nat} (hj:2*j=N) (hg:∀ e∈prsE D j,e.1≠e.2):Cu n (prsE D j):=by
 have hl:=hD.len
 refine ⟨hn.1,hn.2,he,fun e hm=>?_,by rw [zvd];omega,fun v hv=>?_⟩
 ·have hne:=hg e hm
  unfold prsE at hm
  obtain ⟨i,hi,rfl⟩:=List.mem_map.1 hm
  rw [List.mem_range] at hi
  have m1:=hD.rng (x:=D.getD (2*i) 0) (by rw [zae (by omega)];exact List.getElem_mem _)
  have m2:=hD.rng (x:=D.getD (2*i+1) 0) (by rw [zae (by omega)];exact List.getElem_mem _)
  refine ⟨?_,?_,?_,?_,hne⟩ <;> omega
 ·rw [zpC j (by omega),List.take_of_length_le (by omega),(hD.map _).count_eq,show N=3*n.toNat by omega,zhq,if_pos (by omega)]
def ladE (n:Int) (i:Nat):List (Int × Int):=if (i:Int)<n/2 then [((i:Int),((i:Int)+1).tmod n),((i:Int),(i:Int)+n/2)] else [((i:Int),((i:Int)+1).tmod n)]
def ladTo (n:Int) (j:Nat):List (Int × Int):=(List.range j).flatMap (ladE n)
theorem zjL (n:Int) (j:Nat):ladTo n (j+1)=ladTo n j++ladE n j:=by
 unfold ladTo;rw [List.range_succ,List.flatMap_append];simp
theorem zz8 (h2:2≤n) (h10:n≤10) (he:n%2=0):Cu n (ladTo n n.toNat):=by
 have:n=(2:Nat)∨n=(4:Nat)∨n=(6:Nat)∨n=(8:Nat)∨n=(10:Nat):=by omega
 rcases this with rfl|rfl|rfl|rfl|rfl <;> exact zjp (by decide +kernel)
end Go.Proofs
namespace Go.Proofs
open Go.Abs

variable {H G:AHeap} {v u f:Value} {l m c D:List Int} {es fs:List (Int × Int)} {K:Value→AHeap→Prop} {A A':Nat→Prop} {B:Nat} {ls ms:List (List Int)}

end Go.Proofs
namespace Go.Proofs
open Go.Abs

variable {H G:AHeap} {v u f:Value} {l m c D:List Int} {es fs:List (Int × Int)} {K:Value→AHeap→Prop} {A A':Nat→Prop} {B:Nat} {ls ms cs:List (List Int)}

section
variable {p p':Nat→Bool}
end
theorem zdJ {m0 m1:Nat} {t:TypeId} {z:Nat} {xs:List Value} (h:Fresh m0 H v t z xs) (hb:∀ b,bk v=some b→m1≤b):Fresh m1 H v t z xs:=by
 rcases h with h|⟨b,n,h1,rfl,h3,h4⟩
 ·exact .inl h
 ·exact .inr ⟨b,n,hb b rfl,rfl,h3,h4⟩
end Go.Proofs
namespace Go.Proofs
open Go.Abs

variable {H G:AHeap} {v u f:Value} {l m c D:List Int} {es fs:List (Int × Int)} {K:Value→AHeap→Prop} {A A':Nat→Prop} {B:Nat} {ls ms:List (List Int)}

end Go.Proofs
namespace Go.Proofs
open Go.Abs

variable {H G:AHeap} {v u f:Value} {l m c D:List Int} {es fs:List (Int × Int)} {K:Value→AHeap→Prop} {p:Nat→Bool} {e:Nat}

noncomputable def tiDir:TI:=(T0 107).getD ⟨.bool,0,0,undef⟩
theorem zBG:Elem T0 107 2:=⟨tiDir,by kernel_rfl,by kernel_rfl,of_decide_eq_true (by kernel_rfl),by kernel_rfl⟩
def LD (ds:List (Nat × Bool)):List Value:=ds.flatMap fun d=>[.int .i64 (d.1:Nat),.bool d.2]
theorem zyh (ds:List (Nat × Bool)) (d:Nat × Bool):LD (ds++[d])=LD ds++[.int .i64 (d.1:Nat),.bool d.2]:=by simp [LD]
theorem zdP:∀ (ds:List (Nat × Bool)),(LD ds).length=ds.length*2
 | []=>rfl
 | d::ds=>by have:=zdP ds;simp [LD] at this ⊢;omega
noncomputable def dirT (es:List (Int × Int)) (p:Nat→Bool) (e:Nat):Nat→Nat × Bool
 | 0=>((wk es p e 0).1,false)
 | t+1=>((wk es p e (t+1)).1,(es.getD (wk es p e (t+1)).1 (0,0)).2==((wk es p e t).2:Int))
theorem zdD (es:List (Int × Int)) (p:Nat→Bool) (e t:Nat):(dirT es p e t).1=(wk es p e t).1:=by cases t <;> rfl
noncomputable def dirL (es:List (Int × Int)) (p:Nat→Bool) (e T:Nat):List (Nat × Bool):=(List.range T).map (dirT es p e)
theorem zto (es:List (Int × Int)) (p:Nat→Bool) (e T:Nat):dirL es p e (T+1)=dirL es p e T++[dirT es p e T]:=by
 unfold dirL;rw [List.range_succ,List.map_append];rfl
theorem zcD (es:List (Int × Int)) (p:Nat→Bool) (e T:Nat):(dirL es p e T).length=T:=by simp [dirL]
theorem zxU {n:Int} {i:Nat} {b:Bool} (h:Edges H v es) (hi:i<es.length) (k:∀ G,H.le G→K (.int .i64 (if b then (es.getD i (0,0)).1 else (es.getD i (0,0)).2)) G):AC Tryz.prog T0 150 [.agg ⟨[.int .i64 n,v]⟩,.agg ⟨[.int .i64 (i:Nat),.bool b]⟩] H K:=by
 apply F150.ac
 unfold F150.B4
 refine zaf (zak (zah h)) fun H1 l1 _ o1=>zaf rfl fun H2 l2 _ o2=>?_
 have l12:=AHeap.le_trans l1 l2
 have o12:=o1.le l2
 have k:=k _ l12
 obtain ⟨bb,oo,hk,c1,c2⟩:=(h.le l12).idx (show (0:Int)≤i by omega) (by omega)
 simp only [Int.toNat_natCast] at c1 c2
 unfold F150.B3
 refine zab o2 rfl (zai ?_)
 cases b with
 | true=>
  refine zay rfl ?_
  unfold F150.B2
  exact zab o12 rfl (zac o2 rfl (hk _ (zap c1 k)))
 | false=>
  refine zaz rfl ?_
  unfold F150.B1
  exact zab o12 rfl (zac o2 rfl (hk _ (zap c2 k)))
theorem zjS {m:Nat} {t:TypeId} {ds:List (Nat × Bool)} (h:Fresh m H v t 2 (LD ds)):lenV v=ds.length:=by
 have hl:=zdP ds
 rcases h with ⟨h0,rfl|⟨a,rfl⟩⟩|⟨b,n,_,rfl,_,h4⟩
 ·rw [h0] at hl;simp [lenV] at hl ⊢;omega
 ·rw [h0] at hl;simp [lenV] at hl ⊢;omega
 ·simp only [lenV];omega
theorem zy4 {n:Int} (hg:IsG n es) (h2:Deg2 n es p) (he:e<es.length) (hpe:p e=true) {t:Nat} (ht:t<(compL es p e).length) :
 (if (dirT es p e t).2 then (es.getD (wk es p e t).1 (0,0)).1 else (es.getD (wk es p e t).1 (0,0)).2)=((wk es p e t).2:Int):=by
 cases t with
 | zero=>
  obtain ⟨d1,d2,d3,d4,d5⟩:=hg.ed.ends es[e] (List.getElem_mem he)
  rw [← zae (d:=(0,0)) he] at d1 d2 d3 d4 d5
  show (es.getD e (0,0)).2=(((es.getD e (0,0)).2.toNat:Nat):Int)
  omega
 | succ t=>
  obtain ⟨a0,w,hW⟩:=zdF hg h2 he hpe (t+1) (by omega)
  obtain ⟨a1,w1,hW1⟩:=zdF hg h2 he hpe t (by omega)
  have hwl:=hW.lt
  obtain ⟨d1,d2,d3,d4,d5⟩:=hg.ed.ends es[(wk es p e (t+1)).1] (List.getElem_mem hwl)
  rw [← zae (d:=(0,0)) hwl] at d1 d2 d3 d4 d5
  have hvn:=hW1.vn
  obtain ⟨q,q1,q2,q3,q4⟩:=zbO (now:=(wk es p e t).1) (h2 (wk es p e t).2 hvn (za3 hW1.lt hW1.pn hW1.onv)) hW1.lt
  have hnx:=zgI (h2 _ hvn (za3 hW1.lt hW1.pn hW1.onv)) hW1.lt hW1.pn hW1.onv q1 q2 q3 q4
  have e1:(wk es p e (t+1)).1=q:=by rw [wk,hnx]
  have e2:(wk es p e (t+1)).2=othN es (q:Int) (wk es p e t).2:=by rw [wk,hnx]
  have hb:(dirT es p e (t+1)).2=((es.getD (wk es p e (t+1)).1 (0,0)).2==((wk es p e t).2:Int)):=rfl
  rw [hb,e2]
  rw [e1] at d1 d2 d3 d4 d5 ⊢
  unfold on at q4
  simp only [Bool.or_eq_true,beq_iff_eq] at q4
  unfold othN
  rw [Int.toNat_natCast]
  by_cases hx:(es.getD q (0,0)).2=((wk es p e t).2:Int)
  ·rw [if_pos (by rw [hx];simp)];omega
  ·rw [if_neg (by simpa using hx)];omega
theorem zmI {n:Int} {s:Nat} (h:Edges H v es) (hg:IsG n es) (h2:Deg2 n es p) (he:e<es.length) (hpe:p e=true) (hs:∀ j,s.testBit j=true↔j<es.length∧Rch (eAdj es p) e j) (hlow:∀ j,j<e→¬ Rch (eAdj es p) e j)
 (k:∀ w G,H.le G→Fresh H.length G w 107 2 (LD (dirL es p e (compL es p e).length))→K w G):AC Tryz.prog T0 93 [.agg ⟨[.int .i64 n,v]⟩,.int .u64 (s:Nat)] H K:=by
 have n0:=hg.ed.lo;have n1:=hg.ed.hi
 have h30:es.length≤30:=by have:=hg.ed.len;omega
 have hsl:s<2^64:=Nat.lt_of_lt_of_le (zgJ fun j hj=>((hs j).1 hj).1) (Nat.pow_le_pow_right (by decide) (by omega))
 obtain ⟨T,hT⟩:∃ T,T=(compL es p e).length:=⟨_,rfl⟩
 have hTl:T≤es.length:=by rw [hT];exact zas _ _
 have hTp:0<T:=by rw [hT];exact List.length_pos_of_mem (zaU.2 ⟨e,rfl,he,.refl⟩)
 rw [← hT] at k
 apply F93.ac
 unfold F93.B12
 refine zaf (zak (zah h)) fun H1 l1 _ o1=>?_
 unfold F93.B11
 refine zco hsl fun w0 H2 l2 f2=>?_
 have hbl:bitsL s=filtB (fun j=>s.testBit j) es.length:=zbm (by omega) fun j hj=>((hs j).1 hj).1
 have hfirst:(bitsL s).getD 0 0=(e:Int)∧0<(bitsL s).length:=by
  have hm:(e:Int)∈bitsL s:=by rw [hbl];exact zar.2 ⟨e,rfl,he,(hs e).2 ⟨he,.refl⟩⟩
  have ha:Asc (bitsL s):=by rw [hbl];exact zaL _ _
  cases hl:bitsL s with
  | nil=>rw [hl] at hm;cases hm
  | cons a r=>
   refine ⟨?_,by simp⟩
   rw [hl] at hm ha
   have hma:a∈filtB (fun j=>s.testBit j) es.length:=by rw [← hbl,hl];simp
   obtain ⟨j,rfl,_,hj⟩:=zar.1 hma
   show ((j:Nat):Int)=e
   rcases List.mem_cons.1 hm with h|h
   ·omega
   ·unfold Asc at ha
    have:=(List.pairwise_cons.1 ha).1 _ h
    exact absurd ((hs j).1 hj).2 (hlow j (by omega))
 refine f2.ints.rd (by decide) (by omega) ?_
 rw [show (0:Int).toNat=0 from rfl,hfirst.1]
 have l12:=AHeap.le_trans l1 l2
 have o2:=o1.le l2
 refine zaf rfl fun H3 l3 n3 o3=>zaG o3 (by simp) (by simp [Value.oneCell']) rfl fun H4 b4 o4=>?_
 obtain ⟨x5,hx5⟩:∃ x5,x5=H2.length:=⟨_,rfl⟩
 rw [← hx5] at o4 ⊢
 have o4:Own H4 x5 107 [.int .i64 (e:Nat),.bool false]:=by simpa using o4
 have l24:H2.le H4:=b4.le l3 (Nat.le_refl _)
 have hl4:H4.length=H2.length+1:=by rw [b4.len];omega
 unfold F93.B10 F93.L1
 refine ⟨fun x1 x2 x5' x6 G=>H.length=x2∧x5=x5'∧H2.le G∧x5+1≤G.length∧∃ t:Nat,t<T∧∃ st:Nat,x1=((st:Nat):Int)∧(∀ j,st.testBit j=true↔s.testBit j=true∧(j:Int)∉wkL es p e t)∧Own G x5 107 [.int .i64 ((wk es p e t).1:Nat),.bool (dirT es p e t).2]∧Fresh (x5+1) G x6 107 2 (LD (dirL es p e t)),
  fun _ _ _ x6 _=>31-lenV x6,⟨rfl,rfl,l24,by omega,0,hTp,s,rfl,fun j=>by simp [wkL],o4,.inl ⟨rfl,.inl rfl⟩⟩,?_⟩
 clear o4 o3 b4 l24 l3 f2
 rintro x1 x2 x5' x6 G ⟨rfl,rfl,hG,hGl,t,ht,st,rfl,hst,oD,hF⟩
 have lG:=AHeap.le_trans l12 hG
 have oG:=o2.le hG
 obtain ⟨a0,w,hW⟩:=zdF hg h2 he hpe t (by omega)
 have hwl:=hW.lt
 have hstl:st<2^64:=Nat.lt_of_lt_of_le (zgJ fun j hj=>((hs j).1 ((hst j).1 hj).1).1) (Nat.pow_le_pow_right (by decide) (by omega))
 unfold F93.B9
 refine zac oD rfl (zab oD rfl (zai ?_))
 refine hF.sl.pushN zBG (by decide) hGl (n:=1) (ys:=[.int .i64 ((wk es p e t).1:Nat),.bool (dirT es p e t).2]) rfl rfl (by rw [zdP,zcD];simp;omega) (by simp) fun x6' G2 k2 ot2 nb2 f2=>?_
 have f2:Fresh (x5+1) G2 x6' 107 2 (LD (dirL es p e (t+1))):=by
  rw [zto,zyh,zdD];exact f2
 have hk2:=k2.len
 have oD2:=k2.own oD (by omega)
 have hG2:H2.le G2:=k2.le hG (by omega)
 have lG2:=AHeap.le_trans l12 hG2
 have oG2:=o2.le hG2
 unfold F93.B8
 refine zac oD2 rfl ⟨by omega,?_⟩
 have pw:2^(wk es p e t).1<2^64:=Nat.pow_lt_pow_right (by decide) (by omega)
 rw [zbq (by omega) (by omega),Int.toNat_natCast]
 have band:IntKind.u64.wrap ((BitVec.ofInt 64 ((st:Nat):Int)&&&~~~(BitVec.ofInt 64 ((2^(wk es p e t).1:Nat):Int))).toNat:Int)=((st&&&(2^64-(2^(wk es p e t).1+1)):Nat):Int):=by
  have hs':st&&&(2^64-(2^(wk es p e t).1+1))<2^64:=Nat.lt_of_le_of_lt Nat.and_le_left hstl
  rw [zc3,zc3,BitVec.toNat_and,BitVec.toNat_not,BitVec.toNat_ofNat,BitVec.toNat_ofNat,Nat.mod_eq_of_lt hstl,Nat.mod_eq_of_lt pw,show 2^64-1-2^(wk es p e t).1=2^64-(2^(wk es p e t).1+1) by omega,zbh hs']
 rw [band]
 obtain ⟨s2,hs2⟩:∃ s2,s2=st&&&(2^64-(2^(wk es p e t).1+1)):=⟨_,rfl⟩
 rw [← hs2]
 have hs2l:s2<2^64:=by rw [hs2];exact Nat.lt_of_le_of_lt Nat.and_le_left hstl
 have hs2b:∀ j,s2.testBit j=true↔s.testBit j=true∧(j:Int)∉wkL es p e (t+1):=by
  intro j
  rw [hs2,Nat.testBit_and,Nat.testBit_two_pow_sub_succ pw,Nat.testBit_two_pow,zge,List.mem_append,List.mem_singleton]
  simp only [Bool.and_eq_true,decide_eq_true_eq,Bool.not_eq_true',decide_eq_false_iff_not,hst j]
  constructor
  ·rintro ⟨⟨a1,a2⟩,a3,a4⟩
   exact ⟨a1,fun h=>h.elim a2 fun h=>a4 (by omega)⟩
  ·rintro ⟨a1,a2⟩
   refine ⟨⟨a1,fun h=>a2 (.inl h)⟩,?_,fun h=>a2 (.inr (by omega))⟩
   have:=((hs j).1 a1).1;omega
 unfold F93.B7
 refine zac oG2 rfl (zab oG2 rfl (zac oD2 rfl (zab oD2 rfl (zai (zxU (h.le lG2) hwl fun G3 l3=>zag ?_)))))
 rw [zy4 hg h2 he hpe (by omega)]
 have hvn:=hW.vn
 unfold F93.B6
 have lG3:=AHeap.le_trans lG2 l3
 refine zac (oG2.le l3) rfl (zab (oG2.le l3) rfl (zjC (h.le lG3) (by omega) fun q G4 l4 f4=>?_))
 have har:∀ x∈atL es ((wk es p e t).2:Int),0≤x∧x<64:=fun x hx=>by
  obtain ⟨i,rfl,hi,_⟩:=zaN.1 hx
  omega
 refine zbk f4.ints (by have:=zf0 es ((wk es p e t).2:Int) es.length;unfold atL;omega) har (zag ?_)
 rw [zb9 (za8 fun x hx=>(har x hx).2) hs2l]
 obtain ⟨X,hX⟩:∃ X,X=setN (atL es ((wk es p e t).2:Int))&&&s2:=⟨_,rfl⟩
 rw [← hX]
 have hXl:X<2^64:=by rw [hX];exact Nat.lt_of_le_of_lt Nat.and_le_right hs2l
 have hXb:∀ j,X.testBit j=true↔(j:Int)∈atL es ((wk es p e t).2:Int)∧s.testBit j=true∧(j:Int)∉wkL es p e (t+1):=fun j=>by
  rw [hX,Nat.testBit_and,Bool.and_eq_true,hs2b j,zbB fun x hx=>(har x hx).1]
  simp
 have lG4:=AHeap.le_trans l3 l4
 have hG4:=AHeap.le_trans hG2 lG4
 have lH4:=AHeap.le_trans l12 hG4
 have nextq:t+1<T→X.testBit (wk es p e (t+1)).1=true:=by
  intro h1
  obtain ⟨a1,w1,hW1⟩:=zdF hg h2 he hpe (t+1) (by omega)
  rw [hXb]
  refine ⟨zaN.2 ⟨_,rfl,hW1.lt,?_⟩,(hs _).2 ⟨hW1.lt,hW1.rch⟩,zpO hg h2 he hpe (by omega)⟩
  obtain ⟨q,q1,q2,q3,q4⟩:=zbO (now:=(wk es p e t).1) (h2 (wk es p e t).2 hvn (za3 hW.lt hW.pn hW.onv)) hW.lt
  have hnx:=zgI (h2 _ hvn (za3 hW.lt hW.pn hW.onv)) hW.lt hW.pn hW.onv q1 q2 q3 q4
  have e1:(wk es p e (t+1)).1=q:=by rw [wk,hnx]
  rw [e1];exact q4
 unfold F93.B5
 refine zaa (fun hb=>?_) fun hb=>?_
 ·have hX0:X=0:=by have:=beq_iff_eq.1 hb;omega
  have hT1:T=t+1:=by
   rcases Nat.lt_or_ge (t+1) T with h1|h1
   ·have:=nextq h1
    rw [hX0] at this;simp at this
   ·omega
  unfold F93.B4
  rw [hT1] at k
  have:=l12.1
  exact k _ _ lH4 ((f2.le lG4).less (by omega))
 ·have hX0:X≠0:=fun h=>by rw [h] at hb;simp at hb
  have hT1:t+1<T:=by
   rcases Nat.lt_or_ge (t+1) T with h1|h1
   ·exact h1
   ·exfalso
    apply hX0
    apply Nat.eq_of_testBit_eq
    intro j
    rw [Nat.zero_testBit]
    cases hx:X.testBit j with
    | false=>rfl
    | true=>
     obtain ⟨_,a2,a3⟩:=(hXb j).1 hx
     have hT1:t+1=(compL es p e).length:=by omega
     rw [hT1,zkV hg h2 he hpe] at a3
     exact absurd ((hs j).1 a2).2 a3
  obtain ⟨a1,w1,hW1⟩:=zdF hg h2 he hpe (t+1) (by omega)
  have huniq:∀ j,X.testBit j=true→j=(wk es p e (t+1)).1:=by
   intro j hj
   obtain ⟨a1,a2,a3⟩:=(hXb j).1 hj
   obtain ⟨j',e1,j1,j2⟩:=zaN.1 a1
   obtain rfl:j=j':=by omega
   have hpj:=(zcd ((hs j).1 a2).2 ⟨he,hpe⟩).2
   have hne:j≠(wk es p e t).1:=fun e=>a3 (by rw [e,zge];simp)
   rw [wk,zgI (h2 _ hvn (za3 hW.lt hW.pn hW.onv)) hW.lt hW.pn hW.onv j1 hpj hne j2]
  unfold F93.B3
  refine zco hXl fun q2 G5 l5 f5=>?_
  have hXbl:bitsL X=filtB (fun j=>X.testBit j) es.length:=zbm (by omega) fun j hj=>((hs j).1 ((hXb j).1 hj).2.1).1
  have hm:(((wk es p e (t+1)).1:Nat):Int)∈bitsL X:=by rw [hXbl];exact zar.2 ⟨_,rfl,hW1.lt,nextq hT1⟩
  have hpos:=List.length_pos_of_mem hm
  have hget:(bitsL X).getD 0 0=((wk es p e (t+1)).1:Int):=by
   rw [zae hpos]
   have hmem:(bitsL X)[0]∈filtB (fun j=>X.testBit j) es.length:=by rw [← hXbl];exact List.getElem_mem hpos
   obtain ⟨j,e1,_,hj⟩:=zar.1 hmem
   rw [e1,huniq j hj]
  refine f5.ints.rd (by decide) (by omega) ?_
  rw [show (0:Int).toNat=0 from rfl,hget]
  have hG5:=AHeap.le_trans hG4 l5
  have lH5:=AHeap.le_trans l12 hG5
  have lG5:=AHeap.le_trans lG4 l5
  have oD5:=oD2.le lG5
  have hl5:=lG5.1
  unfold F93.B2
  have hwl1:=hW1.lt
  obtain ⟨bb,oo,hk,c1,c2⟩:=(h.le lH5).idx (show (0:Int)≤((wk es p e (t+1)).1:Nat) by omega) (by omega)
  simp only [Int.toNat_natCast] at c1 c2
  refine zab (o2.le hG5) rfl (hk _ (zap c2 (zaG oD5 (by simp) (by simp [Value.oneCell']) rfl fun G6 b6 o6=>?_)))
  have o6:Own G6 x5 107 [.int .i64 ((wk es p e (t+1)).1:Nat),.bool (dirT es p e (t+1)).2]:=by
   rw [show (dirT es p e (t+1)).2=((es.getD (wk es p e (t+1)).1 (0,0)).2==((wk es p e t).2:Int)) from rfl]
   simpa using o6
  have f6:=(f2.le lG5).but b6 (by omega)
  refine ⟨⟨rfl,rfl,b6.le hG5 (by omega),by rw [b6.len];omega,t+1,hT1,s2,rfl,hs2b,o6,f6⟩,?_⟩
  show 31-lenV x6'<31-lenV x6
  rw [zjS f2,zjS hF,zcD,zcD]
  omega
end Go.Proofs
namespace Go.Proofs
open Go.Abs

variable {H G:AHeap} {v u f:Value} {l m c D:List Int} {es fs:List (Int × Int)} {K:Value→AHeap→Prop} {A A':Nat→Prop} {B:Nat} {ls ms cs:List (List Int)}

end Go.Proofs
namespace Go.Proofs
open Go.Abs

variable {H G:AHeap} {v u f:Value} {l m c D S:List Int} {es fs:List (Int × Int)} {K:Value→AHeap→Prop} {cs:List (List Int)}

def srtI (l:List Int):List Int:=l.mergeSort fun a b=>decide (a≤b)
theorem zjl (h1:S.Pairwise fun a b=>a≤b) (h2:S.Perm l):S=srtI l:=by
 refine zfT (le:=fun a b:Int=>a≤b) (fun a b h1 h2=>Int.le_antisymm h1 h2) h1 ?_ (h2.trans (List.mergeSort_perm l _).symm)
 have:=List.pairwise_mergeSort (le:=fun a b:Int=>decide (a≤b)) (fun a b c h1 h2=>by simp at *;omega) (fun a b=>by simp;omega) l
 exact this.imp fun h=>by simpa using h
theorem zjx {j:Nat} {x:Int} (hS:S.Pairwise fun a b=>a≤b) (hj:j≤S.length) (h1:∀ i,j≤i→i<S.length→x<S.getD i 0) (h2:j=0∨S.getD (j-1) 0≤x):(S.take j++([x]++S.drop j)).Pairwise fun a b=>a≤b:=by
 have hS':=hS
 rw [← List.take_append_drop j S,List.pairwise_append] at hS'
 obtain ⟨p1,p2,p3⟩:=hS'
 rw [List.pairwise_append]
 refine ⟨p1,?_,fun a ha b hb=>?_⟩
 ·rw [List.singleton_append,List.pairwise_cons]
  refine ⟨fun b hb=>?_,p2⟩
  obtain ⟨i,hi,rfl⟩:=List.getElem_of_mem hb
  rw [List.length_drop] at hi
  have:=h1 (j+i) (by omega) (by omega)
  rw [zae (by omega)] at this
  rw [List.getElem_drop];omega
 ·rw [List.singleton_append,List.mem_cons] at hb
  rcases hb with rfl|hb
  ·obtain ⟨i,hi,rfl⟩:=List.getElem_of_mem ha
   rw [List.length_take] at hi
   rw [List.getElem_take]
   rcases h2 with h2|h2
   ·omega
   ·rw [zae (by omega)] at h2
    by_cases e:i=j-1
    ·subst e;exact h2
    ·exact Int.le_trans ((List.pairwise_iff_getElem.1 hS) i (j-1) (by omega) (by omega) (by omega)) h2
  ·exact p3 a ha b hb
theorem zl5 {j:Nat} {x:Int}:(S.take j++([x]++S.drop j)).Perm (S++[x]):=by
 have h1:(S.take j++([x]++S.drop j)).Perm (S.take j++(S.drop j++[x])):=List.Perm.append_left _ List.perm_append_comm
 have e:S.take j++(S.drop j++[x])=S++[x]:=by rw [← List.append_assoc,List.take_append_drop]
 rw [← e];exact h1
end Go.Proofs
namespace Go.Proofs
open Go.Abs

variable {H G:AHeap} {v u f:Value} {l m c D:List Int} {es fs:List (Int × Int)} {K:Value→AHeap→Prop} {cs:List (List Int)}

theorem zx3:∀ (ds:List (Nat × Bool)) (i:Nat) (hi:i<ds.length),(LD ds)[i*2]?=some (.int .i64 ((ds.getD i (0,false)).1:Nat))∧(LD ds)[i*2+1]?=some (.bool (ds.getD i (0,false)).2)
 | d::ds,0,_=>⟨rfl,rfl⟩
 | d::ds,i+1,hi=>by
  have ih:=zx3 ds i (by simpa using hi)
  have e:LD (d::ds)=.int .i64 (d.1:Nat)::.bool d.2::LD ds:=rfl
  rw [e,show (i+1)*2=i*2+1+1 by omega]
  exact ih
theorem zxi {mm:Nat} {t:TypeId} {ds:List (Nat × Bool)} (h:Fresh mm G v t 2 (LD ds)) {i:Nat} (hi:i<ds.length):∃ b o,(∀ K:Nat→Nat→Prop,K b o→idxK v (i:Int) 2 K)∧G.cell b o=some (.int .i64 ((ds.getD i (0,false)).1:Nat))∧G.cell b (o+1)=some (.bool (ds.getD i (0,false)).2):=by
 have hl:=zdP ds
 obtain ⟨g1,g2⟩:=zx3 ds i hi
 rcases h with ⟨h0,_⟩|⟨b,n,_,rfl,h3,h4⟩
 ·rw [h0] at hl;simp at hl;omega
 ·refine ⟨b,i*2,fun K k=>⟨by omega,by omega,by simpa using k⟩,?_,?_⟩
  ·rw [zbw h3];exact g1
  ·rw [zbw h3];exact g2
end Go.Proofs
namespace Go.Proofs
open Go.Abs

variable {H G:AHeap} {v u f:Value} {l m c D S:List Int} {es fs:List (Int × Int)} {K:Value→AHeap→Prop} {cs:List (List Int)}

theorem zxT {b i:Nat} {K:Value→Prop} (o:Own H b 2 (LI S)) (hi:i≤S.length) (k:∀ v',Ints H v' (S.take i)→K v'):sliceK H 2 (.slice (some ⟨b,0,none⟩) S.length (S.length+1)) none (some (.int .i64 (i:Int))) 1 K:=by
 refine ⟨⟨_,_,o,by simp⟩,by simp,by simp,by simp;omega,?_⟩
 refine k _ (.inr ⟨_,_,by simp [Nat.min_eq_left hi];exact ⟨rfl,rfl⟩,.inr ⟨rfl,fun q x hx=>?_⟩⟩)
 rw [zbw o]
 have:=List.getElem?_eq_some_iff.1 hx
 obtain ⟨hq,he⟩:=this
 rw [List.length_take] at hq
 rw [List.getElem_take] at he
 show (LI S)[0+0*1+q]?=_
 rw [show 0+0*1+q=q by omega,zxx,List.getElem?_eq_getElem (by omega),he];rfl
end Go.Proofs
namespace Go.Proofs
open Go.Abs

variable {H G Hb:AHeap} {v u f w:Value} {l m:List Int} {K:Value→AHeap→Prop} {bs:Nat}

theorem zaV (hB:Byts H v l) (hl:l.length≤4096) (k:∀ G,H.le G→Src H H.length G→K (.pointer (some ⟨H.length,0,none⟩)) G):AC Tryz.prog T0 57 [v] H K:=by
 apply F57.ac
 unfold F57.B8 F57.B7
 refine hB.len (zay hB.one (zaf (by simp [hB.one];exact ⟨rfl,rfl⟩) fun H1 l1 n1 o1=>?_))
 unfold F57.B6 F57.L2
 refine ⟨fun x0 x3 x4 G=>v=x0∧.pointer (some ⟨H.length,0,none⟩)=x3∧∃ i:Nat,x4=i∧i≤l.length∧Src H H.length G,fun _ _ x4 _=>l.length-x4.toNat,⟨rfl,rfl,0,rfl,by omega,l1,Nat.le_refl _,v,l,0,_,hB,hl,o1,by omega,by omega⟩,?_⟩
 rintro x0 x3 x4 G ⟨rfl,rfl,i,rfl,hi,hs⟩
 obtain ⟨h1,h2,cv,l',a,x,hB',h4,ho,h6,h7⟩:=id hs
 have fin:F57.B1 K (.pointer (some ⟨H.length,0,none⟩)) G:=by
  unfold F57.B1
  exact k G h1 hs
 unfold F57.B5
 refine (hB.le h1).len (zaa (fun hb=>zaa (fun hc=>?_) fun _=>fin) fun _=>fin)
 have hlt:i<l.length:=by have:=of_decide_eq_true hb;omega
 unfold F57.B4
 refine zbi (zaq (zac ho rfl ((hB.le h1).rd (by omega) (by omega) fun z z0 z1=>zbi (zaq (zaO ho (by simp) rfl fun G2 b2 o2=>?_)))))
 unfold F57.B3
 rw [zad (by omega) (by omega)]
 exact ⟨⟨rfl,rfl,i+1,by omega,by omega,Src.put h1 h2 hB' h4 b2 o2 h6 h7⟩,by simp;omega⟩
theorem Src.lt (h:Src Hb bs H):bs<H.length:=by
 obtain ⟨_,_,cv,l,a,x,_,_,ho,_⟩:=h
 exact ho.lt
theorem zBv {b N r:Nat} {cs:List Value} {K:Value→Prop} (o:Own G b 2 cs) (hl:N≤cs.length) (hr:r≤N) (k:K (.slice (some ⟨b,r,none⟩) (N-r) (N-r+1))):sliceK G 2 (.slice (some ⟨b,0,none⟩) N (N+1)) (some (.int .i64 (r:Nat))) none 1 K:=
 ⟨⟨_,_,o,by simpa using hl⟩,by simp,by simp;omega,by simp,by simpa using k⟩
theorem zc1 {n:Int} (hs:Src Hb bs H) (h1:n≤1000) (k:∀ v' D G,Kb bs H G→Src Hb bs G→Fresh H.length G v' 2 1 (LI D)→PmL D n.toNat→K v' G) :
 AC Tryz.prog T0 117 [.pointer (some ⟨bs,0,none⟩),.int .i64 n] H K:=by
 have hbs:=hs.lt
 apply F117.ac
 unfold F117.B9 F117.B8
 refine zaf rfl fun H1 l1 n1 o1=>?_
 unfold F117.B7 F117.L2
 refine ⟨fun x0 x1 x5 x6 G=>.pointer (some ⟨bs,0,none⟩)=x0∧n=x1∧Kb bs H G∧Src Hb bs G∧∃ (i b:Nat) (D:List Int),x6=i∧i≤n.toNat∧H.length≤b∧x5=.slice (some ⟨b,0,none⟩) i (i+1)∧D.length=i∧Own G b 2 (LI D)∧PmL D D.length,fun _ _ _ x6 _=>n.toNat-x6.toNat,
  ⟨rfl,rfl,.of_le l1,hs.le l1,0,H.length,[],rfl,by omega,Nat.le_refl _,rfl,rfl,o1,.refl _⟩,?_⟩
 rintro x0 x1 x5 x6 G ⟨rfl,rfl,kb,s,i,b,D,rfl,hi,hb,rfl,hD,ho,hr⟩
 unfold F117.B6
 refine zaa (fun hc=>?_) fun hc=>?_
 ·have hlt:i<n.toNat:=by have:=of_decide_eq_true hc;omega
  unfold F117.B5
  rw [zad (by omega) (by omega)]
  refine zav s fun r G1 k1 s1 r0 r1 _=>zag ?_
  obtain ⟨r,rfl⟩:∃ r':Nat,r=r':=⟨r.toNat,by omega⟩
  have hri:r≤i:=by have:=r1 (by omega);omega
  have o1:Own G1 b 2 (LI D):=k1.old b _ (by omega) ho
  have kb1:=kb.trans k1
  have lo:∀ {G':AHeap} {K:Value→Prop},Own G' b 2 (LI D)→K (.slice (some ⟨b,r,none⟩) (i-r) (i-r+1))→sliceK G' 2 (.slice (some ⟨b,0,none⟩) i (i+1)) (some (.int .i64 (r:Nat))) none 1 K:=fun o k=>zBv o (by simp [hD]) hri k
  have hi1:sliceK G1 2 (.slice (some ⟨b,0,none⟩) i (i+1)) none (some (.int .i64 (r:Nat))) 1 (fun v1=>Ints G1 v1 (D.take r)):=by
   have:=zxT (K:=fun v'=>Ints G1 v' (D.take r)) (i:=r) o1 (by omega) fun v' hv'=>hv'
   rwa [hD] at this
  have fin:∀ v12 G13,G1.le G13→Fresh H.length G13 v12 2 1 (LI (D.take r++[(i:Int)]++D.drop r))→F117.B3 K (fun z0 z1 z5 z6 G'=>(.pointer (some ⟨bs,0,none⟩)=z0∧n=z1∧Kb bs H G'∧Src Hb bs G'∧∃ (i b:Nat) (D:List Int),z6=i∧i≤n.toNat∧H.length≤b∧z5=.slice (some ⟨b,0,none⟩) i (i+1)∧D.length=i∧Own G' b 2 (LI D)∧PmL D D.length)∧n.toNat-z6.toNat<n.toNat-(i:Int).toNat) (.pointer (some ⟨bs,0,none⟩)) n v12 i G13:=by
   intro v12 G13 l13 f13
   unfold F117.B3
   rw [zad (by omega) (by omega)]
   have hlen:(D.take r++[(i:Int)]++D.drop r).length=i+1:=by simp;omega
   rcases f13 with ⟨h0,_⟩|⟨b',c,hb',rfl,o',hc'⟩
   ·have:=congrArg List.length h0
    rw [List.length_map,hlen,List.length_nil] at this;omega
   ·have hcc:c=i+1:=by rw [List.length_map,hlen] at hc';omega
    subst hcc
    refine ⟨⟨rfl,rfl,kb1.trans (.of_le l13),s1.le l13,i+1,b',_,by omega,by omega,hb',rfl,hlen,o',by rw [hlen];exact (show PmL D i from by rw [← hD];exact hr).put⟩,by simp;omega⟩
  have cells:∀ {G':AHeap},Own G' b 2 (LI D)→cellsAt G' (.slice (some ⟨b,r,none⟩) (i-r) (i-r+1)) 1 (i-r) (LI (D.drop r)):=fun {G'} o=>by
   refine ⟨by simp [hD],_,_,rfl,.inr ⟨b,r,rfl,fun q x hx=>?_⟩⟩
   rw [zbw o]
   rw [List.getElem?_map,List.getElem?_drop] at hx
   rw [List.getElem?_map];exact hx
  have hG1:H.length≤G1.length:=kb1.len
  have last:∀ v9 G10 m0,G1.le G10→G1.length≤m0→m0≤G10.length→Fresh m0 G10 v9 2 1 (LI (D.take r++[(i:Int)]))→apK T0 2 G10 v9 (.slice (some ⟨b,r,none⟩) (i-r) (i-r+1)) (fun v12 H13=>F117.B3 K (fun z0 z1 z5 z6 G'=>(.pointer (some ⟨bs,0,none⟩)=z0∧n=z1∧Kb bs H G'∧Src Hb bs G'∧∃ (i b:Nat) (D:List Int),z6=i∧i≤n.toNat∧H.length≤b∧z5=.slice (some ⟨b,0,none⟩) i (i+1)∧D.length=i∧Own G' b 2 (LI D)∧PmL D D.length)∧n.toNat-z6.toNat<n.toNat-(i:Int).toNat) (.pointer (some ⟨bs,0,none⟩)) n v12 i H13):=by
   intro v9 G10 m0 l10 hm1 hm' f10
   have hm:H.length≤m0:=Nat.le_trans hG1 hm1
   refine f10.sl.app zbl (by decide) hm' (cells (o1.le l10)) (by simp;omega) (fun h0=>?_) fun v12 G13 k13 _ _ f13=>?_
   ·have hd:D.drop r=[]:=List.map_eq_nil_iff.1 h0
    refine fin v9 G10 l10 ?_
    rw [hd,List.append_nil]
    exact f10.less hm
   ·refine fin v12 G13 (k13.le l10 hm1) ?_
    have:=f13.less hm
    simpa using this
  unfold F117.B4
  obtain ⟨a1,a2,a3,a4,a5⟩:=hi1
  refine ⟨a1,a2,a3,a4,lo o1 ⟨zcw a5 (by rw [List.length_take];omega) fun v3 G4 l4 f4=>⟨lo (o1.le l4) ⟨rfl,rfl⟩,?_⟩,zaf rfl fun G15 l15 n15 o15=>zcw (a5.le l15) (by rw [List.length_take];omega) fun v16 G17 l17 f17=>⟨lo (o1.le (AHeap.le_trans l15 l17)) ⟨rfl,rfl⟩,?_⟩⟩⟩
  ·refine f4.sl.pushN zbl (by decide) l4.1 (n:=1) (ys:=[.int .i64 (i:Nat)]) rfl rfl (by simp;omega) (by simp) fun v9 G10 k10 _ _ f10=>?_
   have l10:=k10.le l4 (Nat.le_refl _)
   exact ⟨lo (o1.le l10) ⟨rfl,rfl⟩,last v9 G10 G1.length l10 (Nat.le_refl _) l10.1 (by simpa using f10)⟩
  ·have hcs:cellsAt G17 (.slice (some ⟨G1.length,0,none⟩) 1 (1+1)) 1 1 [.int .i64 (i:Nat)]:=zcK (o15.le l17) rfl
   refine f17.sl.app zbl (by decide) l17.1 hcs (by simp;omega) (fun h=>by cases h) fun v20 G21 k21 _ _ f21=>?_
   have l21:=AHeap.le_trans l15 (k21.le l17 (Nat.le_refl _))
   exact ⟨lo (o1.le l21) ⟨rfl,rfl⟩,last v20 G21 G15.length l21 l15.1 (k21.le l17 (Nat.le_refl _)).1 (by simpa using f21)⟩
 ·have hie:i=n.toNat:=by have:=of_decide_eq_false hc;omega
  subst hie
  unfold F117.B1
  exact k _ D G kb s (.inr ⟨b,n.toNat,hb,rfl,ho,by simp [hD]⟩) (by rw [← hD];exact hr)
theorem zeW {n:Int} (hs:Src Hb bs H) (h1:n≤1000) (k:∀ v' D G,Kb bs H G→Src Hb bs G→Fresh H.length G v' 2 1 (LI D)→D.length=n.toNat→(∀ x∈D,0≤x∧x<n)→K v' G) :
 AC Tryz.prog T0 117 [.pointer (some ⟨bs,0,none⟩),.int .i64 n] H K:=
 zc1 hs h1 fun v' D G kb s f hp=>k v' D G kb s f hp.len fun x hx=>by have:=hp.rng hx;omega
end Go.Proofs
namespace Go.Proofs
open Go.Abs

variable {H G:AHeap} {v u f w:Value} {es fs S:List (Int × Int)} {l:List Int} {K:Value→AHeap→Prop}

def k4A:List (Int × Int):=[(0,1),(0,2),(0,3),(1,2),(1,3),(2,3)]
end Go.Proofs
namespace Go.Proofs
open Go.Abs

variable {H G Hb:AHeap} {v u f w:Value} {l m:List Int} {es:List (Int × Int)} {K:Value→AHeap→Prop} {bs:Nat} {n:Int}

def EdR (n:Int) (es:List (Int × Int)):Prop:=∀ e∈es,0≤e.1∧e.1<n∧0≤e.2∧e.2<n
structure Gd (n:Int) (es:List (Int × Int)):Prop where
 pos:0<es.length
 len:es.length≤1000
 rng:EdR n es
theorem EdR.made (h:EdR n es):EdR n (srtE (es.map nrmE)):=fun e he=>by
 obtain ⟨a,ha,rfl⟩:=List.mem_map.1 ((zdK _).mem_iff.1 he)
 have:=h a ha
 unfold nrmE
 simp only
 split <;> split <;> omega
theorem Gd.made (h:Gd n es):Gd n (srtE (es.map nrmE)):=⟨by rw [zcp,List.length_map];exact h.pos,by rw [zcp,List.length_map];exact h.len,h.rng.made⟩
theorem EdR.snoc (h:EdR n es) {a b:Int} (ha:0≤a∧a<n) (hb:0≤b∧b<n):EdR n (es++[(a,b)]):=fun e he=>by
 rcases List.mem_append.1 he with he|he
 ·exact h e he
 ·rw [List.mem_singleton.1 he];exact ⟨ha.1,ha.2,hb.1,hb.2⟩
theorem zgb (hs:Src Hb bs H) (h2:2≤n) (hn:n≤100) (he:n%2=0) (k:∀ v' es G,Kb bs H G→Src Hb bs G→Fresh H.length G v' 66 2 (LE es)→Gd n es→(n≤10→IsG n es)→K (.agg ⟨[.int .i64 n,v']⟩) G) :
 AC Tryz.prog T0 104 [.pointer (some ⟨bs,0,none⟩),.int .i64 n] H K:=by
 have hbs:=hs.lt
 have nilR:EdR n []:=fun e he=>absurd he (by simp)
 apply F104.ac
 unfold F104.B24
 refine zaf rfl fun H1 l1 n1 o1=>?_
 unfold F104.B23 F104.L10
 refine ⟨fun x0 x1 x4 x5 G=>.pointer (some ⟨bs,0,none⟩)=x0∧n=x1∧H.length=x4∧Kb bs H G∧Src Hb bs G∧Own G H.length 26 [.int .i64 0,.slice none 0 0]∧∃ i:Nat,x5=i∧i≤20,fun _ _ _ x5 _=>20-x5.toNat,⟨rfl,rfl,rfl,.of_le l1,hs.le l1,o1,0,rfl,by omega⟩,?_⟩
 rintro x0 x1 x4 x5 G ⟨rfl,rfl,rfl,kb,s,ob,i,rfl,hi⟩
 have hHG:=kb.len
 have fin:∀ v' es G',Kb bs H G'→Src Hb bs G'→Own G' H.length 26 [.int .i64 0,.slice none 0 0]→Fresh H.length G' v' 66 2 (LE es)→Gd n es→(n≤10→IsG n es)→(∀ b,bk v'=some b→b≠H.length)→stK G' H.length 0 [.int .i64 n,v'] (fun H7=>ldI .i64 H7 H.length 0 (fun v8=>ld1 H7 H.length 1 (fun v9=>K (.agg ⟨[.int .i64 v8,v9]⟩) H7))):=by
  intro v' es G' kb' s' ob' f' g' gq hne
  refine zaG (new:=[.int .i64 n,v']) ob' (by simp) (zaT (zaw f')) rfl fun G5 b5 o5=>zac o5 rfl (zab o5 rfl ?_)
  have hsb:Src Hb bs G5:=by
   obtain ⟨h1,h2,cv,l,a,x,h3,h4,h5,h6,h7⟩:=s'
   have hlt:=h1.1
   exact ⟨b5.le h1 (by omega),h2,cv,l,a,x,h3,h4,b5.own h5 (by omega),h6,h7⟩
  refine k v' es G5 ⟨by rw [b5.len];exact kb'.len,fun q o hq ho=>?_⟩ hsb (zaM f' fun b o hb ho=>by rw [b5.same b (hne b hb)];exact ho) g' gq
  have:=zaj ho
  rw [b5.same q (by omega)];exact kb'.old q o hq ho
 have made:∀ v' es G',Kb bs H G'→Src Hb bs G'→Own G' H.length 26 [.int .i64 0,.slice none 0 0]→Edges G' v' es→Gd n es→(n≤10→Cu n es)→AC Tryz.prog T0 158 [.int .i64 n,v'] G' (fun v1 H2=>agg2 v1 (fun v3 v4=>asI .i64 v3 (fun v5=>stK H2 H.length 0 [.int .i64 v5,v4] (fun H7=>ldI .i64 H7 H.length 0 (fun v8=>ld1 H7 H.length 1 (fun v9=>K (.agg ⟨[.int .i64 v8,v9]⟩) H7)))))):=by
  intro v' es G' kb' s' ob' h' g' gq
  have hlt:=ob'.lt
  refine zdX h' (by have:=g'.len;omega) fun v2 G2 l2 f2=>zax (zag ?_)
  exact fin v2 _ G2 (kb'.trans (.of_le l2)) (s'.le l2) (ob'.le l2) (f2.less kb'.len) g'.made (fun h=>(gq h).isG) fun b hb=>by have:=(f2.bk_lt hb).1;omega
 have hd2:IntKind.i64.wrap (Int.tdiv n 2)=n/2:=by rw [Int.tdiv_eq_ediv_of_nonneg (by omega),zad (by omega) (by omega)]
 unfold F104.B22
 refine zaa (fun hb=>?_) fun hb=>?_
 rotate_left
 ·unfold F104.B9
  refine zaf rfl fun G1 g1 m1 p1=>?_
  have hlt:=ob.lt
  unfold F104.B8 F104.L2
  refine ⟨fun x1 x4 x12 x13 G'=>n=x1∧H.length=x4∧G.le G'∧∃ (j:Nat) (es:List (Int × Int)),x13=j∧(j:Int)≤n∧Fresh G.length G' x12 66 2 (LE es)∧EdR n es∧j≤es.length∧es.length≤2*j∧es=ladTo n j,fun _ _ _ x13 _=>(n-x13).toNat,⟨rfl,rfl,g1,0,[],rfl,by omega,.inr ⟨_,0,Nat.le_refl _,rfl,p1,rfl⟩,nilR,by simp,by simp,rfl⟩,?_⟩
  rintro x1 x4 x12 x13 G' ⟨rfl,rfl,lG,j,es,rfl,hj,hF,hE,hl1,hl2,hx⟩
  have next:∀ v3 G4 es',G.le G4→Fresh G.length G4 v3 66 2 (LE es')→EdR n es'→j+1≤es'.length→es'.length≤2*(j+1)→es'=ladTo n (j+1)→(j:Int)<n→F104.B3 K (fun y1 y4 y12 y13 G'=>(n=y1∧H.length=y4∧G.le G'∧∃ (j:Nat) (es:List (Int × Int)),y13=j∧(j:Int)≤n∧Fresh G.length G' y12 66 2 (LE es)∧EdR n es∧j≤es.length∧es.length≤2*j∧es=ladTo n j)∧(n-y13).toNat<(n-(j:Int)).toNat) n H.length v3 j G4:=by
   intro v3 G4 es' l4 f4 e4 h3 h4 hx' h5
   unfold F104.B3
   rw [zad (by omega) (by omega)]
   exact ⟨⟨rfl,rfl,l4,j+1,es',by omega,by omega,f4,e4,h3,h4,hx'⟩,by omega⟩
  unfold F104.B7
  refine zaa (fun hc=>?_) fun hc=>?_
  ·have hlt:=of_decide_eq_true hc
   unfold F104.B6
   rw [zad (by omega) (by omega)]
   have t0:0≤Int.tmod ((j:Int)+1) n:=Int.tmod_nonneg _ (by omega)
   have t1:Int.tmod ((j:Int)+1) n<n:=Int.tmod_lt_of_pos _ (by omega)
   have hE1:=hE.snoc (a:=j) (b:=Int.tmod ((j:Int)+1) n) ⟨by omega,hlt⟩ ⟨t0,t1⟩
   refine zay (by simp;omega) (zcz (x:=((j:Int),Int.tmod ((j:Int)+1) n)) hF lG.1 (by omega) fun v3 G4 k4 _ _ f4=>?_)
   have l4:=k4.le lG (Nat.le_refl _)
   unfold F104.B5
   rw [hd2]
   refine zaa (fun hq=>?_) fun hq=>next v3 G4 _ l4 f4 hE1 (by simp;omega) (by simp;omega) (by rw [zjL,hx];unfold ladE;rw [if_neg (of_decide_eq_false hq)]) hlt
   have hq:=of_decide_eq_true hq
   unfold F104.B4
   rw [hd2,zad (by omega) (by omega)]
   refine zcz (x:=((j:Int),(j:Int)+n/2)) f4 l4.1 (by simp;omega) fun v5 G6 k6 _ _ f6=>?_
   exact next v5 G6 _ (k6.le l4 (Nat.le_refl _)) f6 (hE1.snoc ⟨by omega,by omega⟩ ⟨by omega,by omega⟩) (by simp;omega) (by simp;omega) (by rw [zjL,hx];unfold ladE;rw [if_pos hq,List.append_assoc];rfl) hlt
  ·have hge:=of_decide_eq_false hc
   unfold F104.B1
   exact made x12 es G' (kb.trans (.of_le lG)) (s.le lG) (ob.le lG) hF.edges ⟨by omega,by omega,hE⟩ fun h10=>by
    rw [hx,show j=n.toNat by omega];exact zz8 h2 h10 he
 ·have hi20:=of_decide_eq_true hb
  unfold F104.B21
  rw [zad (by omega) (by omega)]
  refine zc1 s (by omega) fun v1 D G1 k1 s1 f1 hDp=>zaf rfl fun G2 l2 n2 o2=>?_
  have hDl:=hDp.len
  have hDr:∀ x∈D,0≤x∧x<3*n:=fun x hx=>by have:=hDp.rng hx;omega
  have ob1:Own G1 H.length 26 [.int .i64 0,.slice none 0 0]:=k1.old _ _ (by omega) ob
  have kb2:=(kb.trans k1).trans (.of_le l2)
  have s2:=s1.le l2
  have hDi:∀ G',G1.le G'→Ints G' v1 D:=fun G' l=>f1.ints.le l
  unfold F104.B20 F104.L14
  refine ⟨fun x0 x1 x4 x5 x6 x7 x8 x9 G'=>.pointer (some ⟨bs,0,none⟩)=x0∧n=x1∧H.length=x4∧(i:Int)=x5∧v1=x6∧G1.le G'∧∃ (j:Nat) (es:List (Int × Int)),x9=2*(j:Int)∧2*(j:Int)≤3*n∧Fresh G1.length G' x7 66 2 (LE es)∧EdR n es∧es.length=j∧es=prsE D j∧(x8=true→∀ e∈es,e.1≠e.2),fun _ _ _ _ _ _ _ x9 _=>(3*n-x9).toNat,⟨rfl,rfl,rfl,rfl,rfl,l2,0,[],rfl,by omega,.inr ⟨_,0,Nat.le_refl _,rfl,o2,rfl⟩,nilR,rfl,rfl,fun _ e he=>by cases he⟩,?_⟩
  rintro x0 x1 x4 x5 x6 x7 x8 x9 G' ⟨rfl,rfl,rfl,rfl,rfl,lG,j,es,rfl,hj,hF,hE,hel,hx,hgood⟩
  have hDG:=hDi G' lG
  unfold F104.B19
  refine hDG.len (zaa (fun hc=>?_) fun hc=>?_)
  ·have hlt:2*(j:Int)<3*n:=by have:=of_decide_eq_true hc;omega
   have r1:=hDr (D.getD (2*(j:Int)).toNat 0) (by rw [zae (by omega)];exact List.getElem_mem _)
   have r2:=hDr (D.getD (2*(j:Int)+1).toNat 0) (by rw [zae (by omega)];exact List.getElem_mem _)
   have q1:IntKind.i64.wrap (Int.tdiv (D.getD (2*(j:Int)).toNat 0) 3)=D.getD (2*(j:Int)).toNat 0/3:=by rw [Int.tdiv_eq_ediv_of_nonneg (by omega),zad (by omega) (by omega)]
   have q2:IntKind.i64.wrap (Int.tdiv (D.getD (2*(j:Int)+1).toNat 0) 3)=D.getD (2*(j:Int)+1).toNat 0/3:=by rw [Int.tdiv_eq_ediv_of_nonneg (by omega),zad (by omega) (by omega)]
   unfold F104.B18
   rw [zad (by omega) (by omega)]
   refine hDG.rd (by omega) (by omega) (hDG.rd (by omega) (by omega) ?_)
   rw [q1,q2]
   unfold F104.B17
   refine zcz (x:=(D.getD (2*(j:Int)).toNat 0/3,D.getD (2*(j:Int)+1).toNat 0/3)) hF lG.1 (by omega) fun v3 G4 k4 _ _ f4=>?_
   have l4:=k4.le lG (Nat.le_refl _)
   unfold F104.B16
   have hx':es++[(D.getD (2*(j:Int)).toNat 0/3,D.getD (2*(j:Int)+1).toNat 0/3)]=prsE D (j+1):=by
    rw [znu,hx,show (2*(j:Int)).toNat=2*j by omega,show (2*(j:Int)+1).toNat=2*j+1 by omega]
   refine zaa (fun hg1=>?_) fun _=>?_
   ·unfold F104.B15
    rw [zad (by omega) (by omega)]
    refine ⟨⟨rfl,rfl,rfl,rfl,rfl,l4,j+1,_,by omega,by omega,f4,hE.snoc ⟨by omega,by omega⟩ ⟨by omega,by omega⟩,by simp [hel],hx',fun hq e he=>?_⟩,by show (3*n-(2*(j:Int)+2)).toNat<(3*n-2*(j:Int)).toNat;omega⟩
    rcases List.mem_append.1 he with he|he
    ·exact hgood hg1 e he
    ·rw [List.mem_singleton.1 he]
     exact bne_iff_ne.1 hq
   ·unfold F104.B15
    rw [zad (by omega) (by omega)]
    exact ⟨⟨rfl,rfl,rfl,rfl,rfl,l4,j+1,_,by omega,by omega,f4,hE.snoc ⟨by omega,by omega⟩ ⟨by omega,by omega⟩,by simp [hel],hx',fun hq=>by cases hq⟩,by show (3*n-(2*(j:Int)+2)).toNat<(3*n-2*(j:Int)).toNat;omega⟩
  ·have hge:=of_decide_eq_false hc
   unfold F104.B13
   refine zaa (fun hq=>?_) fun hq=>?_
   ·unfold F104.B12
    exact made x7 es G' ((kb.trans k1).trans (.of_le lG)) (s1.le lG) (ob1.le lG) hF.edges ⟨by omega,by omega,hE⟩ fun h10=>by
     rw [hx]
     exact zzV (N:=(3*n).toNat) ⟨h2,by omega⟩ he (by omega) hDp (by omega) (by rw [← hx];exact hgood hq)
   ·unfold F104.B11
    rw [zad (by omega) (by omega)]
    exact ⟨⟨rfl,rfl,rfl,(kb.trans k1).trans (.of_le lG),s1.le lG,ob1.le lG,i+1,by omega,by omega⟩,by show 20-((i:Int)+1).toNat<20-(i:Int).toNat;omega⟩
theorem zhz (hs:Src Hb bs H) (h2:2≤n) (hn:n≤100) (he:n%2=0) (k:∀ v' es G,Kb bs H G→Src Hb bs G→Fresh H.length G v' 66 2 (LE es)→Gd n es→K (.agg ⟨[.int .i64 n,v']⟩) G) :
 AC Tryz.prog T0 104 [.pointer (some ⟨bs,0,none⟩),.int .i64 n] H K:=
 zgb hs h2 hn he fun v' es G kb s f g _=>k v' es G kb s f g
end Go.Proofs
namespace Go.Proofs
open Go.Abs

variable {H G Hb:AHeap} {v u f w:Value} {l m D:List Int} {es:List (Int × Int)} {K:Value→AHeap→Prop} {bs:Nat} {n:Int}

def renE (D:List Int) (es:List (Int × Int)):List (Int × Int):=es.map fun e=>(D.getD e.1.toNat 0,D.getD e.2.toNat 0)
theorem zvl (hD:D.length=n.toNat) (hr:∀ x∈D,0≤x∧x<n) (h:EdR n es):EdR n (renE D es):=fun e he=>by
 obtain ⟨a,ha,rfl⟩:=List.mem_map.1 he
 have h1:=h a ha
 have m1:D.getD a.1.toNat 0∈D:=by rw [zae (by omega)];exact List.getElem_mem _
 have m2:D.getD a.2.toNat 0∈D:=by rw [zae (by omega)];exact List.getElem_mem _
 have h2:=hr _ m1
 have h3:=hr _ m2
 exact ⟨h2.1,h2.2,h3.1,h3.2⟩
theorem zfC (h:Edges H v es) (hg:Gd n es) (hi:Ints H u D) (hD:D.length=n.toNat) (hr:∀ x∈D,0≤x∧x<n) (k:∀ v' es' G,H.le G→Fresh H.length G v' 66 2 (LE es')→Gd n es'→es'=srtE ((renE D es).map nrmE)→K (.agg ⟨[.int .i64 n,v']⟩) G) :
 AC Tryz.prog T0 116 [.agg ⟨[.int .i64 n,v]⟩,u] H K:=by
 have hlen:=hg.len
 apply F116.ac
 unfold F116.B8
 refine zaf (zak (zah h)) fun H1 l1 n1 o1=>zaf rfl fun H2 l2 n2 o2=>?_
 have l02:=AHeap.le_trans l1 l2
 have o12:=o1.le l2
 unfold F116.B7
 refine zaf rfl fun H3 l3 n3 o3=>?_
 unfold F116.B6 F116.L2
 refine ⟨fun x1 x2 x4 x5 x6 G=>u=x1∧H.length=x2∧H1.length=x4∧H2.le G∧∃ i:Nat,x6=i∧i≤es.length∧Fresh H2.length G x5 66 2 (LE (renE D (es.take i))),fun _ _ _ _ x6 _=>es.length-x6.toNat,⟨rfl,rfl,rfl,l3,0,rfl,by omega,.inr ⟨_,0,Nat.le_refl _,rfl,o3,rfl⟩⟩,?_⟩
 rintro x1 x2 x4 x5 x6 G ⟨rfl,rfl,rfl,lG,i,rfl,hil,hF⟩
 have l0G:=AHeap.le_trans l02 lG
 unfold F116.B5
 refine zab (o12.le lG) rfl ((h.le l0G).len (zaa (fun hb=>?_) fun hb=>?_))
 ·have hlt:i<es.length:=by have:=of_decide_eq_true hb;omega
  have hm:es.getD i (0,0)∈es:=by rw [zae hlt];exact List.getElem_mem _
  have hrg:=hg.rng _ hm
  obtain ⟨bb,oo,hk,c1,c2⟩:=(h.le l0G).idx (show (0:Int)≤i by omega) (by omega)
  simp only [Int.toNat_natCast] at c1 c2
  unfold F116.B4
  refine zab (o12.le lG) rfl (hk _ (zap c1 ((hi.le l0G).rd (by omega) (by omega) (zab (o12.le lG) rfl (hk _ (zap c2 ((hi.le l0G).rd (by omega) (by omega) ?_)))))))
  refine zcz (x:=(D.getD (es.getD i (0,0)).1.toNat 0,D.getD (es.getD i (0,0)).2.toNat 0)) hF lG.1 (by simp [renE];omega) fun v3 G4 k4 _ _ f4=>?_
  unfold F116.B3
  rw [zad (by omega) (by omega)]
  refine ⟨⟨rfl,rfl,rfl,k4.le lG (Nat.le_refl _),i+1,by omega,by omega,?_⟩,by simp;omega⟩
  have e:renE D (es.take (i+1))=renE D (es.take i)++[(D.getD (es.getD i (0,0)).1.toNat 0,D.getD (es.getD i (0,0)).2.toNat 0)]:=by
   unfold renE
   rw [List.take_succ_eq_append_getElem hlt,List.map_append,← zae (d:=(0,0)) hlt];rfl
  rw [e];exact f4
 ·have hie:i=es.length:=by have:=of_decide_eq_false hb;omega
  subst hie
  rw [List.take_length] at hF
  have hG':Gd n (renE D es):=⟨by unfold renE;rw [List.length_map];exact hg.pos,by unfold renE;rw [List.length_map];exact hg.len,zvl hD hr hg.rng⟩
  unfold F116.B1
  refine zac (o12.le lG) rfl (zdX hF.edges (by have:=hG'.len;omega) fun v2 G2 g2 f2=>zax (zag ?_))
  have l2G:=AHeap.le_trans lG g2
  have hb1:=o2.lt
  refine zaG (new:=[.int .i64 n,v2]) (o2.le l2G) (by simp) (zaT (zaw f2)) rfl fun G5 b5 o5=>zac o5 rfl (zab o5 rfl ?_)
  have hGl:=lG.1
  have h0l:=l1.1
  exact k v2 _ G5 (b5.le (AHeap.le_trans l02 l2G) h0l) (((f2.but b5 (by omega)).less (by omega))) hG'.made rfl
theorem zgn (h:Edges H v es) (hg:Gd n es) (hi:Ints H u D) (hD:D.length=n.toNat) (hr:∀ x∈D,0≤x∧x<n) (k:∀ v' es' G,H.le G→Fresh H.length G v' 66 2 (LE es')→Gd n es'→K (.agg ⟨[.int .i64 n,v']⟩) G) :
 AC Tryz.prog T0 116 [.agg ⟨[.int .i64 n,v]⟩,u] H K:=zfC h hg hi hD hr fun v' es' G l f g _=>k v' es' G l f g
end Go.Proofs
namespace Go.Proofs
open Go.Abs

variable {H G Hb:AHeap} {v u f w:Value} {l m D:List Int} {es:List (Int × Int)} {K:Value→AHeap→Prop} {bs:Nat} {n:Int}

def cycE98 (D:List Int) (i:Nat):List (Int × Int):=(List.range i).map fun j:Nat=>(D.getD (j:Int).toNat 0,D.getD (Int.tmod ((j:Int)+1) (D.length:Int)).toNat 0)
theorem zoz (D:List Int) (i:Nat):cycE98 D (i+1)=cycE98 D i++[(D.getD (i:Int).toNat 0,D.getD (Int.tmod ((i:Int)+1) (D.length:Int)).toNat 0)]:=by
 unfold cycE98;rw [List.range_succ,List.map_append];rfl
theorem zo6 {m0 c:Nat} (hF:Fresh m0 H v 66 2 (LE es)) (hm:m0≤H.length) (oc:Own H c 2 (LI D)) (hc:bk v≠some c) (hr:EdR n es) (hD:∀ x∈D,0≤x∧x<n) (hl:es.length+D.length≤1000)
 (k:∀ v' es' G,Keep m0 H G→Fresh m0 G v' 66 2 (LE es')→EdR n es'→es'.length=es.length+D.length→(∀ b,bk v'=some b→bk v=some b∨H.length≤b)→es'=es++cycE98 D D.length→K v' G) :
 AC Tryz.prog T0 167 [v,.slice (some ⟨c,0,none⟩) D.length (D.length+1)] H K:=by
 have hcl:=oc.lt
 apply F167.ac
 unfold F167.B7 F167.B6 F167.L2
 refine ⟨fun x0 x1 x5 G=>.slice (some ⟨c,0,none⟩) D.length (D.length+1)=x1∧Keep m0 H G∧Own G c 2 (LI D)∧(∀ b,bk x0=some b→bk v=some b∨H.length≤b)∧∃ (i:Nat) (es':List (Int × Int)),x5=i∧i≤D.length∧Fresh m0 G x0 66 2 (LE es')∧EdR n es'∧es'.length=es.length+i∧es'=es++cycE98 D i,fun _ _ x5 _=>D.length-x5.toNat,⟨rfl,⟨Nat.le_refl _,fun _ _ _ h=>h⟩,oc,fun b hb=>.inl hb,0,es,rfl,by omega,hF,hr,rfl,by simp [cycE98]⟩,?_⟩
 rintro x0 x1 x5 G ⟨rfl,kp,oG,hbk,i,es',rfl,hi,hFG,hrG,hlG,hex⟩
 have hkl:=kp.len
 have hiG:Ints G (.slice (some ⟨c,0,none⟩) D.length (D.length+1)) D:=zau oG
 unfold F167.B5
 refine zba (zaa (fun hb=>?_) fun hb=>?_)
 ·have hlt:i<D.length:=by have:=of_decide_eq_true hb;omega
  have t0:0≤Int.tmod ((i:Int)+1) (D.length:Int):=Int.tmod_nonneg _ (by omega)
  have t1:Int.tmod ((i:Int)+1) (D.length:Int)<D.length:=Int.tmod_lt_of_pos _ (by omega)
  have r1:=hD (D.getD (i:Int).toNat 0) (by rw [zae (by omega)];exact List.getElem_mem _)
  have t2:(Int.tmod ((i:Int)+1) (D.length:Int)).toNat<D.length:=(Int.toNat_lt t0).2 t1
  have r2:=hD (D.getD (Int.tmod ((i:Int)+1) (D.length:Int)).toNat 0) (by rw [zae t2];exact List.getElem_mem _)
  unfold F167.B4
  rw [zad (by omega) (by omega)]
  have d0:((D.length:Nat):Int)≠0:=by omega
  refine hiG.rd (by omega) (by omega) (zba (zay (by simpa using d0) (hiG.rd t0 t1 ?_)))
  refine zcz (x:=(D.getD (i:Int).toNat 0,D.getD (Int.tmod ((i:Int)+1) (D.length:Int)).toNat 0)) hFG (Nat.le_trans hm hkl) (by rw [hlG];exact Nat.lt_of_le_of_lt (show es.length+i≤1000 by omega) (by decide)) fun v3 G4 k4 ot nb f4=>?_
  unfold F167.B3
  rw [zad (by omega) (by omega)]
  refine ⟨⟨rfl,⟨by have:=k4.len;omega,fun b o hb ho=>k4.old b o hb (kp.old b o hb ho)⟩,ot c _ (fun h=>?_) oG,fun b hb=>.inr (by have:=nb b hb;omega),i+1,_,by omega,by omega,f4,hrG.snoc r1 r2,by simp;omega,by rw [zoz,hex,List.append_assoc]⟩,by simp;omega⟩
  rcases hbk c h with h|h
  ·exact hc h
  ·omega
 ·have hie:i=D.length:=by have:=of_decide_eq_false hb;omega
  subst hie
  unfold F167.B1
  exact k x0 es' G kp hFG hrG hlG hbk hex
end Go.Proofs
namespace Go.Proofs
open Go.Abs

variable {H G Hb H0:AHeap} {v u f w:Value} {l m D:List Int} {es fs:List (Int × Int)} {K:Value→AHeap→Prop} {bs:Nat} {n:Int}

theorem zxd:∀ (l:List Int),(LI l).all Value.oneCell'=true
 | []=>rfl
 | x::l=>by show (Value.int .i64 x::LI l).all Value.oneCell'=true;rw [List.all_cons,zxd l];rfl
theorem zxF:∀ (l:List (Int × Int)),(LE l).all Value.oneCell'=true
 | []=>rfl
 | x::l=>by rw [zbR,List.all_cons,List.all_cons,zxF l];rfl
theorem zqS {m0:Nat} (fs:List (Int × Int)) {cs:List Value} {c:Nat} (hF:Fresh m0 H v 66 2 (LE es)) (hm:m0≤H.length) (hc:cs=LE fs) (hn:c=fs.length) (h0:0<fs.length) (hl:es.length+fs.length≤1000)
 (k:∀ v' G,Keep m0 H G→Fresh m0 G v' 66 2 (LE (es++fs))→K v' G) :
 newK H cs 66 (fun b1 H2=>apK T0 66 H2 v (.slice (some ⟨b1,0,none⟩) c (c+1)) K):=by
 subst hc;subst hn
 refine zaf (zxF fs) fun H2 l2 n2 o2=>?_
 have hE:Edges H2 (.slice (some ⟨H.length,0,none⟩) fs.length (fs.length+1)) fs:=Fresh.edges (m:=0) (e:=66) (.inr ⟨_,fs.length,Nat.zero_le _,rfl,o2,by rw [zaI]⟩)
 exact zd1 (hF.sl.le l2) (Nat.le_trans hm l2.1) hE h0 (by omega) fun v' G k1 _ f=>k v' G ((Keep.of_le l2).trans k1) f
theorem EdR.nil:EdR n []:=fun e he=>absurd he (by simp)
theorem EdR.cons {a b:Int} (h1:0≤a∧a<n) (h2:0≤b∧b<n) (h:EdR n es):EdR n ((a,b)::es):=fun e he=>by
 rcases List.mem_cons.1 he with rfl|he
 ·exact ⟨h1.1,h1.2,h2.1,h2.2⟩
 ·exact h e he
theorem EdR.app (h:EdR n es) (g:EdR n fs):EdR n (es++fs):=fun e he=>by
 rcases List.mem_append.1 he with he|he
 ·exact h e he
 ·exact g e he
theorem EdR.up {n':Int} (h:EdR n es) (hn:n≤n'):EdR n' es:=fun e he=>by
 have:=h e he;omega
def NamK (n:Int) (c:Nat) (H:AHeap) (K:Value→AHeap→Prop):Prop:=∀ v es G,H.le G→Fresh H.length G v 66 2 (LE es)→Gd n es→es.length≤c→K (.tuple ⟨[.agg ⟨[.int .i64 n,v]⟩,.bool true]⟩) G
def NamQ (q:Prop) (n:Int) (c:Nat) (H:AHeap) (K:Value→AHeap→Prop):Prop:=∀ v es G,H.le G→Fresh H.length G v 66 2 (LE es)→Gd n es→es.length≤c→(q→IsG n es)→K (.tuple ⟨[.agg ⟨[.int .i64 n,v]⟩,.bool true]⟩) G
theorem NamK.q {q:Prop} {c:Nat} (k:NamK n c H K):NamQ q n c H K:=fun v es G l f g c _=>k v es G l f g c
theorem zff {q:Prop} {c:Nat} (k:NamQ q n c H0 K) (l0:H0.le H) (o:Own H H0.length 26 [.int .i64 0,.slice none 0 0]) (h:Edges H v es) (hr:EdR n es) (h0:0<es.length) (hl:es.length≤c) (hq:q→Cu n es) (hc:c≤40:=by decide) :
 AC Tryz.prog T0 158 [.int .i64 n,v] H (fun v1 H2=>agg2 v1 (fun v3 v4=>asI .i64 v3 (fun v5=>stK H2 H0.length 0 [.int .i64 v5,v4] (fun H7=>ldI .i64 H7 H0.length 0 (fun v8=>ld1 H7 H0.length 1 (fun v9=>K (.tuple ⟨[.agg ⟨[.int .i64 v8,v9]⟩,.bool true]⟩) H7)))))):=by
 have hlt:=o.lt
 have hg:Gd n es:=⟨h0,by omega,hr⟩
 refine zdX h (by omega) fun v2 G2 l2 f2=>zax (zag ?_)
 refine zaG (new:=[.int .i64 n,v2]) (o.le l2) (by simp) (zaT (zaw f2)) rfl fun G5 b5 o5=>zac o5 rfl (zab o5 rfl ?_)
 have hll:=l0.1
 exact k v2 _ G5 (b5.le (AHeap.le_trans l0 l2) (Nat.le_refl _)) ((f2.but b5 hlt).less hll) hg.made (by rw [zcp,List.length_map];exact hl) fun h=>(hq h).isG
theorem zsu {c:Nat} (k:NamK n c H0 K) (l0:H0.le H) (o:Own H H0.length 26 [.int .i64 0,.slice none 0 0]) (h:Edges H v es) (hr:EdR n es) (h0:0<es.length) (hl:es.length≤c) (hc:c≤40:=by decide) :
 AC Tryz.prog T0 158 [.int .i64 n,v] H (fun v1 H2=>agg2 v1 (fun v3 v4=>asI .i64 v3 (fun v5=>stK H2 H0.length 0 [.int .i64 v5,v4] (fun H7=>ldI .i64 H7 H0.length 0 (fun v8=>ld1 H7 H0.length 1 (fun v9=>K (.tuple ⟨[.agg ⟨[.int .i64 v8,v9]⟩,.bool true]⟩) H7)))))):=
 zff (q:=False) k.q l0 o h hr h0 hl (fun h=>h.elim) hc
structure NmS (H0 H:AHeap) (v:Value) (es:List (Int × Int)):Prop where
 kp:Keep (H0.length+1) H0 H
 ob:Own H H0.length 26 [.int .i64 0,.slice none 0 0]
 f:Fresh (H0.length+1) H v 66 2 (LE es)
theorem NmS.len (h:NmS H0 H v es):H0.length+1≤H.length:=h.ob.lt
theorem NmS.le0 (h:NmS H0 H v es):H0.le H:=h.kp.le (AHeap.le_refl _) (Nat.le_succ _)
theorem NmS.le (h:NmS H0 H v es) (l:H.le G):NmS H0 G v es:=⟨h.kp.trans (.of_le l),h.ob.le l,h.f.le l⟩
theorem NmS.push (fs:List (Int × Int)) {cs:List Value} {c:Nat} (h:NmS H0 H v es) (hc:cs=LE fs) (hn:c=fs.length) (h0:0<fs.length) (hl:es.length+fs.length≤1000) (k:∀ v' G,NmS H0 G v' (es++fs)→K v' G) :
 newK H cs 66 (fun b1 H2=>apK T0 66 H2 v (.slice (some ⟨b1,0,none⟩) c (c+1)) K):=
 zqS fs h.f h.len hc hn h0 hl fun v' G k1 f=>k v' G ⟨h.kp.trans k1,k1.own h.ob (Nat.lt_succ_self _),f⟩
theorem NmS.cycX (D:List Int) {cs:List Value} {c:Nat} (h:NmS H0 H v es) (hc:cs=LI D) (hn:c=D.length) (hr:EdR n es) (hD:∀ x∈D,0≤x∧x<n) (hl:es.length+D.length≤1000) (k:∀ v' es' G,NmS H0 G v' es'→EdR n es'→es'.length=es.length+D.length→es'=es++cycE98 D D.length→K v' G) :
 newK H cs 2 (fun b1 H2=>AC Tryz.prog T0 167 [v,.slice (some ⟨b1,0,none⟩) c (c+1)] H2 K):=by
 subst hc;subst hn
 refine zaf (zxd D) fun H2 l2 n2 o2=>?_
 have h2:=h.le l2
 exact zo6 h2.f h2.len o2 (fun e=>by have:=(h.f.bk_lt e).2;omega) hr hD hl fun v' es' G k1 f r e _ x=>k v' es' G ⟨h2.kp.trans k1,k1.own h2.ob (Nat.lt_succ_self _),f⟩ r e x
theorem NmS.cyc (D:List Int) {cs:List Value} {c:Nat} (h:NmS H0 H v es) (hc:cs=LI D) (hn:c=D.length) (hr:EdR n es) (hD:∀ x∈D,0≤x∧x<n) (hl:es.length+D.length≤1000) (k:∀ v' es' G,NmS H0 G v' es'→EdR n es'→es'.length=es.length+D.length→K v' G) :
 newK H cs 2 (fun b1 H2=>AC Tryz.prog T0 167 [v,.slice (some ⟨b1,0,none⟩) c (c+1)] H2 K):=
 h.cycX D hc hn hr hD hl fun v' es' G h r e _=>k v' es' G h r e
theorem NmS.madeQ {q:Prop} {c:Nat} (k:NamQ q n c H0 K) (h:NmS H0 H v es) (hr:EdR n es) (h0:0<es.length) (hl:es.length≤c) (hq:q→Cu n es) (hc:c≤40:=by decide) :
 AC Tryz.prog T0 158 [.int .i64 n,v] H (fun v1 H2=>agg2 v1 (fun v3 v4=>asI .i64 v3 (fun v5=>stK H2 H0.length 0 [.int .i64 v5,v4] (fun H7=>ldI .i64 H7 H0.length 0 (fun v8=>ld1 H7 H0.length 1 (fun v9=>K (.tuple ⟨[.agg ⟨[.int .i64 v8,v9]⟩,.bool true]⟩) H7)))))):=
 zff k h.le0 h.ob h.f.edges hr h0 hl hq hc
theorem NmS.made {c:Nat} (k:NamK n c H0 K) (h:NmS H0 H v es) (hr:EdR n es) (h0:0<es.length) (hl:es.length≤c) (hc:c≤40:=by decide) :
 AC Tryz.prog T0 158 [.int .i64 n,v] H (fun v1 H2=>agg2 v1 (fun v3 v4=>asI .i64 v3 (fun v5=>stK H2 H0.length 0 [.int .i64 v5,v4] (fun H7=>ldI .i64 H7 H0.length 0 (fun v8=>ld1 H7 H0.length 1 (fun v9=>K (.tuple ⟨[.agg ⟨[.int .i64 v8,v9]⟩,.bool true]⟩) H7)))))):=
 zsu k h.le0 h.ob h.f.edges hr h0 hl hc
theorem zwq {q:Prop} (k:NamQ q 2 40 H0 K) (h:NmS H0 H v []):F115.B2 K H0.length H:=by
 unfold F115.B2
 refine zaf rfl fun H2 l2 n2 o2=>?_
 have h2:=h.le l2
 have hE:Edges H2 (.slice (some ⟨H.length,0,none⟩) 3 (3+1)) [(0,1),(0,1),(0,1)]:=Fresh.edges (m:=0) (e:=66) (.inr ⟨_,3,Nat.zero_le _,rfl,o2,rfl⟩)
 exact zff k h2.le0 h2.ob hE (by refine .cons ?_ ?_ (.cons ?_ ?_ (.cons ?_ ?_ .nil)) <;> decide) (by decide) (by decide) fun _=>zjp (n:=2) (by decide +kernel)
theorem zBj {q:Prop} (k:NamQ q 4 40 H0 K) (h:NmS H0 H v []):F115.B3 K H0.length H:=by
 unfold F115.B3
 refine zaf rfl fun H2 l2 n2 o2=>?_
 have h2:=h.le l2
 have hE:Edges H2 (.slice (some ⟨H.length,0,none⟩) 6 (6+1)) k4A:=Fresh.edges (m:=0) (e:=66) (.inr ⟨_,6,Nat.zero_le _,rfl,o2,rfl⟩)
 exact zff k h2.le0 h2.ob hE (by unfold k4A;refine .cons ?_ ?_ (.cons ?_ ?_ (.cons ?_ ?_ (.cons ?_ ?_ (.cons ?_ ?_ (.cons ?_ ?_ .nil))))) <;> decide) (by decide) (by decide) fun _=>zjp (n:=4) (by decide +kernel)
def k33To (i:Nat):List (Int × Int):=(List.range i).flatMap fun i:Nat=>[((i:Int),3),((i:Int),4),((i:Int),5)]
theorem zqu (i:Nat):k33To (i+1)=k33To i++[((i:Int),3),((i:Int),4),((i:Int),5)]:=by
 unfold k33To;rw [List.range_succ,List.flatMap_append];simp
theorem zzS {q:Prop} (k:NamQ q 6 40 H0 K) (h:NmS H0 H v []):F115.B9 K H0.length v H:=by
 unfold F115.B9 F115.L5
 refine ⟨fun x2 x4 x5 G=>H0.length=x2∧∃ (i:Nat) (es:List (Int × Int)),x5=i∧i≤3∧NmS H0 G x4 es∧EdR 6 es∧es.length=3*i∧es=k33To i,fun _ _ x5 _=>3-x5.toNat,⟨rfl,0,[],rfl,by omega,h,.nil,rfl,rfl⟩,?_⟩
 rintro x2 x4 x5 G ⟨rfl,i,es,rfl,hi,hS,hE,hl,hx⟩
 unfold F115.B8
 refine zaa (fun hb=>?_) fun hb=>?_
 ·have hlt:=of_decide_eq_true hb
  unfold F115.B7
  refine hS.push [((i:Int),3),((i:Int),4),((i:Int),5)] rfl rfl (by simp) (by simp;omega) fun v' G' h'=>?_
  unfold F115.B6
  rw [zad (by omega) (by omega)]
  exact ⟨⟨rfl,i+1,_,by omega,by omega,h',hE.app (by refine .cons ?_ ?_ (.cons ?_ ?_ (.cons ?_ ?_ .nil)) <;> omega),by simp;omega,by rw [zqu,hx]⟩,by simp;omega⟩
 ·have hge:=of_decide_eq_false hb
  unfold F115.B4
  obtain rfl:i=3:=by omega
  subst hx
  exact hS.madeQ k hE (by omega) (by omega) fun _=>zjp (n:=6) (by decide +kernel)
theorem zwP {q:Prop} (k:NamQ q 6 40 H0 K) (h:NmS H0 H v []):F115.B11 K H0.length v H:=by
 unfold F115.B11
 refine h.cycX (n:=6) [0,1,2] rfl rfl .nil (fun x hx=>by simp at hx;omega) (by decide) fun v1 es1 G1 h1 r1 e1 x1=>h1.cycX (n:=6) [3,4,5] rfl rfl r1 (fun x hx=>by simp at hx;omega) (by rw [e1];decide) fun v2 es2 G2 h2 r2 e2 x2=>?_
 unfold F115.B10
 have hl2:es2.length=6:=by rw [e2,e1];rfl
 refine h2.push [(0,3),(1,4),(2,5)] rfl rfl (by simp) (by simp;omega) fun v3 G3 h3=>?_
 exact h3.madeQ k (n:=6) (r2.app (by refine .cons ?_ ?_ (.cons ?_ ?_ (.cons ?_ ?_ .nil)) <;> decide)) (by simp) (by simp;omega) fun _=>by rw [x2,x1];exact zjp (n:=6) (by decide +kernel)
theorem zwJ:∀ i:Fin 8,∀ j:Fin 3,((IntKind.i64.wrap ((BitVec.ofInt 64 (i.val:Int)&&&BitVec.ofInt 64 ((2^j.val:Nat):Int)).toNat:Int):Int)==0)=true→i.val+2^j.val<8:=by decide +kernel
theorem zsg:∀ j:Fin 3,((IntKind.i64.wrap ((BitVec.ofInt 64 (((0:Nat):Int))&&&BitVec.ofInt 64 ((2^j.val:Nat):Int)).toNat:Int):Int)==0)=true:=by decide +kernel
def cubB (i j:Nat):List (Int × Int):=if ((IntKind.i64.wrap ((BitVec.ofInt 64 (i:Int)&&&BitVec.ofInt 64 ((2^j:Nat):Int)).toNat:Int):Int)==0)=true then [((i:Int),(i:Int)+((2^j:Nat):Int))] else []
def cubTo (i:Nat):List (Int × Int):=(List.range i).flatMap fun a=>(List.range 3).flatMap (cubB a)
def cubT (i j:Nat):List (Int × Int):=cubTo i++(List.range j).flatMap (cubB i)
theorem zmV (i j:Nat):cubT i (j+1)=cubT i j++cubB i j:=by
 unfold cubT;rw [List.range_succ,List.flatMap_append,List.append_assoc];simp
theorem zrj (i:Nat):cubTo (i+1)=cubT i 3:=by
 unfold cubT;unfold cubTo;rw [show List.range (i+1)=List.range i++[i] from List.range_succ,List.flatMap_append,List.flatMap_cons,List.flatMap_nil,List.append_nil]
theorem zyg {q:Prop} (k:NamQ q 8 40 H0 K) (h:NmS H0 H v []):F115.B22 K H0.length v H:=by
 unfold F115.B22 F115.L13
 refine ⟨fun x2 x4 x6 G=>H0.length=x2∧∃ (i:Nat) (es:List (Int × Int)),x6=i∧i≤8∧NmS H0 G x4 es∧EdR 8 es∧es.length≤3*i∧(0<i→0<es.length)∧es=cubTo i,fun _ _ x6 _=>8-x6.toNat,⟨rfl,0,[],rfl,by omega,h,.nil,by simp,by simp,rfl⟩,?_⟩
 rintro x2 x4 x6 G ⟨rfl,i,es,rfl,hi,hS,hE,hl,hp,hx⟩
 unfold F115.B21
 refine zaa (fun hb=>?_) fun hb=>?_
 ·have hlt:=of_decide_eq_true hb
  unfold F115.B20 F115.L15
  refine ⟨fun x2 x4 x6 x7 G=>H0.length=x2∧(i:Int)=x6∧∃ (j:Nat) (es:List (Int × Int)),x7=((2^j:Nat):Int)∧j≤3∧NmS H0 G x4 es∧EdR 8 es∧es.length≤3*i+j∧(0<i∨0<j→0<es.length)∧es=cubT i j,fun _ _ _ x7 _=>8-x7.toNat,⟨rfl,rfl,0,es,rfl,by omega,hS,hE,by omega,fun h=>hp (by omega),by rw [hx];simp [cubT]⟩,?_⟩
  rintro x2 x4 x6 x7 G ⟨rfl,rfl,j,es,rfl,hj,hS,hE,hl,hp,hx⟩
  unfold F115.B19
  have p3:j=0∨j=1∨j=2∨j=3:=by omega
  refine zaa (fun hc=>?_) fun hc=>?_
  ·have hj3:j<3:=by
    have hc:=of_decide_eq_true hc
    rcases p3 with rfl|rfl|rfl|rfl <;> first|omega|(exact absurd hc (by decide))
   have h2:2^(j+1)=2*2^j:=by rw [Nat.pow_succ,Nat.mul_comm]
   have h4:2^j≤4∧1≤2^j:=by
    have:j=0∨j=1∨j=2:=by omega
    rcases this with rfl|rfl|rfl <;> decide
   unfold F115.B18
   refine zaa (fun hd=>?_) fun hd=>?_
   ·have hlt8:=zwJ ⟨i,by omega⟩ ⟨j,hj3⟩ hd
    simp only at hlt8
    unfold F115.B17
    rw [zad (by omega) (by omega)]
    refine hS.push [((i:Int),(i:Int)+((2^j:Nat):Int))] rfl rfl (by simp) (by simp;omega) fun v' G' h'=>?_
    unfold F115.B16
    rw [zad (by omega) (by omega)]
    exact ⟨⟨rfl,rfl,j+1,_,by rw [h2];omega,by omega,h',hE.app (.cons (by omega) (by omega) .nil),by simp;omega,fun _=>by simp,by rw [zmV,hx];unfold cubB;rw [if_pos hd]⟩,by show 8-(2*((2^j:Nat):Int)).toNat<8-(((2^j:Nat):Int)).toNat;generalize 2^j=q at h4 ⊢;omega⟩
   ·unfold F115.B16
    rw [zad (by omega) (by omega)]
    refine ⟨⟨rfl,rfl,j+1,es,by rw [h2];omega,by omega,hS,hE,by omega,fun _=>?_,by rw [zmV,hx];unfold cubB;rw [if_neg (by rw [hd];simp),List.append_nil]⟩,by show 8-(2*((2^j:Nat):Int)).toNat<8-(((2^j:Nat):Int)).toNat;generalize 2^j=q at h4 ⊢;omega⟩
    by_cases h0:i=0
    ·subst h0
     have hz:=zsg ⟨j,hj3⟩
     rw [hd] at hz;cases hz
    ·exact hp (by omega)
  ·have hj3:j=3:=by
    have hc:=of_decide_eq_false hc
    rcases p3 with rfl|rfl|rfl|rfl <;> first|rfl|(exact absurd (by decide) hc)
   subst hj3
   unfold F115.B14
   rw [zad (by omega) (by omega)]
   exact ⟨⟨rfl,i+1,es,by omega,by omega,hS,hE,by omega,fun _=>hp (.inr (by decide)),by rw [zrj,hx]⟩,by simp;omega⟩
 ·have hge:=of_decide_eq_false hb
  unfold F115.B12
  obtain rfl:i=8:=by omega
  subst hx
  exact hS.madeQ k hE (hp (by omega)) (by omega) fun _=>zjp (n:=8) (by decide +kernel)
def petTo (i:Nat):List (Int × Int):=(List.range i).flatMap fun i:Nat=>[((i:Int),Int.tmod ((i:Int)+1) 5),((i:Int),(i:Int)+5),((i:Int)+5,Int.tmod ((i:Int)+2) 5+5)]
theorem zqE (i:Nat):petTo (i+1)=petTo i++[((i:Int),Int.tmod ((i:Int)+1) 5),((i:Int),(i:Int)+5),((i:Int)+5,Int.tmod ((i:Int)+2) 5+5)]:=by
 unfold petTo;rw [List.range_succ,List.flatMap_append];simp
theorem zom {q:Prop} (k:NamQ q 10 15 H0 K) (h:NmS H0 H v []):F115.B28 K H0.length v H:=by
 unfold F115.B28 F115.L24
 refine ⟨fun x2 x4 x8 G=>H0.length=x2∧∃ (i:Nat) (es:List (Int × Int)),x8=i∧i≤5∧NmS H0 G x4 es∧EdR 10 es∧es.length=3*i∧es=petTo i,fun _ _ x8 _=>5-x8.toNat,⟨rfl,0,[],rfl,by omega,h,.nil,rfl,rfl⟩,?_⟩
 rintro x2 x4 x8 G ⟨rfl,i,es,rfl,hi,hS,hE,hl,hx⟩
 unfold F115.B27
 refine zaa (fun hb=>?_) fun hb=>?_
 ·have hlt:=of_decide_eq_true hb
  unfold F115.B26
  rw [zad (x:=(i:Int)+1) (by omega) (by omega),zad (x:=(i:Int)+5) (by omega) (by omega),zad (x:=(i:Int)+2) (by omega) (by omega)]
  have t0:0≤Int.tmod ((i:Int)+1) 5:=Int.tmod_nonneg _ (by omega)
  have t1:Int.tmod ((i:Int)+1) 5<5:=Int.tmod_lt_of_pos _ (by omega)
  have s0:0≤Int.tmod ((i:Int)+2) 5:=Int.tmod_nonneg _ (by omega)
  have s1:Int.tmod ((i:Int)+2) 5<5:=Int.tmod_lt_of_pos _ (by omega)
  obtain ⟨a,ha⟩:∃ a,a=Int.tmod ((i:Int)+1) 5:=⟨_,rfl⟩
  obtain ⟨b,hb⟩:∃ b,b=Int.tmod ((i:Int)+2) 5:=⟨_,rfl⟩
  rw [← ha] at t0 t1 ⊢
  rw [← hb] at s0 s1 ⊢
  rw [zad (x:=b+5) (by omega) (by omega)]
  refine hS.push [((i:Int),a),((i:Int),(i:Int)+5),((i:Int)+5,b+5)] rfl rfl (by simp) (by simp;omega) fun v' G' h'=>?_
  unfold F115.B25
  rw [zad (by omega) (by omega)]
  exact ⟨⟨rfl,i+1,_,by omega,by omega,h',hE.app (by refine .cons ?_ ?_ (.cons ?_ ?_ (.cons ?_ ?_ .nil)) <;> omega),by simp;omega,by rw [zqE,hx,ha,hb]⟩,by simp;omega⟩
 ·have hge:=of_decide_eq_false hb
  unfold F115.B23
  obtain rfl:i=5:=by omega
  subst hx
  exact hS.madeQ k hE (by omega) (by omega) fun _=>zjp (n:=10) (by decide +kernel)
theorem zs4 (k:NamK 20 40 H0 K) (h:NmS H0 H v []):F115.B44 K H0.length v H:=by
 unfold F115.B44 F115.L40
 refine ⟨fun x2 x4 x12 G=>H0.length=x2∧∃ (i:Nat) (es:List (Int × Int)),x12=i∧i≤5∧NmS H0 G x4 es∧EdR 20 es∧es.length=3*i,fun _ _ x12 _=>5-x12.toNat,⟨rfl,0,[],rfl,by omega,h,.nil,rfl⟩,?_⟩
 rintro x2 x4 x12 G ⟨rfl,i,es,rfl,hi,hS,hE,hl⟩
 unfold F115.B43
 refine zaa (fun hb=>?_) fun hb=>?_
 ·have hlt:=of_decide_eq_true hb
  unfold F115.B42
  rw [zad (x:=(i:Int)+5) (by omega) (by omega),zad (x:=(i:Int)+10) (by omega) (by omega),zad (x:=(i:Int)+15) (by omega) (by omega)]
  refine hS.push [((i:Int),(i:Int)+5),((i:Int),(i:Int)+10),((i:Int),(i:Int)+15)] rfl rfl (by simp) (by simp;omega) fun v' G' h'=>?_
  unfold F115.B41
  rw [zad (by omega) (by omega)]
  exact ⟨⟨rfl,i+1,_,by omega,by omega,h',hE.app (by refine .cons ?_ ?_ (.cons ?_ ?_ (.cons ?_ ?_ .nil)) <;> omega),by simp;omega⟩,by simp;omega⟩
 ·have hge:=of_decide_eq_false hb
  unfold F115.B39
  refine hS.cyc (n:=20) [5,6,7,8,9] rfl rfl hE (fun x hx=>by simp at hx;omega) (by simp;omega) fun v1 es1 G1 h1 r1 e1=>?_
  unfold F115.B38
  have e1:es1.length=es.length+5:=e1
  refine h1.cyc (n:=20) [10,11,12,13,14,15,16,17,18,19] rfl rfl r1 (fun x hx=>by simp at hx;omega) (by simp;omega) fun v2 es2 G2 h2 r2 e2=>?_
  have e2:es2.length=es1.length+10:=e2
  exact h2.made k r2 (by omega) (by omega)
theorem ztS (k:NamK 10 40 H0 K) (h:NmS H0 H v []):F115.B50 K H0.length v H:=by
 unfold F115.B50 F115.L46
 refine ⟨fun x2 x4 x13 G=>H0.length=x2∧∃ (i:Nat) (es:List (Int × Int)),x13=5*(i:Int)∧i≤2∧NmS H0 G x4 es∧EdR 10 es∧es.length=7*i,fun _ _ x13 _=>10-x13.toNat,⟨rfl,0,[],rfl,by omega,h,.nil,rfl⟩,?_⟩
 rintro x2 x4 x13 G ⟨rfl,i,es,rfl,hi,hS,hE,hl⟩
 unfold F115.B49
 refine zaa (fun hb=>?_) fun hb=>?_
 ·have hlt:=of_decide_eq_true hb
  unfold F115.B48
  obtain ⟨x,hx⟩:∃ x,x=5*(i:Int):=⟨_,rfl⟩
  rw [← hx]
  rw [zad (x:=x+1) (by omega) (by omega),zad (x:=x+2) (by omega) (by omega),zad (x:=x+3) (by omega) (by omega),zad (x:=x+4) (by omega) (by omega)]
  refine hS.push [(x,x+2),(x,x+3),(x+1,x+2),(x+1,x+3),(x+2,x+3),(x,x+4),(x+1,x+4)] rfl rfl (by simp) (by simp;omega) fun v' G' h'=>?_
  unfold F115.B47
  rw [zad (by omega) (by omega)]
  exact ⟨⟨rfl,i+1,_,by omega,by omega,h',hE.app (by refine .cons ?_ ?_ (.cons ?_ ?_ (.cons ?_ ?_ (.cons ?_ ?_ (.cons ?_ ?_ (.cons ?_ ?_ (.cons ?_ ?_ .nil)))))) <;> omega),by simp;omega⟩,by show 10-(x+5).toNat<10-x.toNat;omega⟩
 ·have hge:=of_decide_eq_false hb
  unfold F115.B45
  refine hS.push [(4,9)] rfl rfl (by simp) (by simp;omega) fun v' G' h'=>?_
  exact h'.made k (n:=10) (hE.app (.cons (by decide) (by decide) .nil)) (by simp) (by simp;omega)
theorem zbJ {nm:ByteArray} (h:∀ H1 v,NmS H H1 v []→F115.B60 K nm H.length v H1):AC Tryz.prog T0 115 [.string nm] H K:=by
 apply F115.ac
 unfold F115.B62
 refine zaf rfl fun H1 l1 n1 o1=>?_
 unfold F115.B61
 refine zaf rfl fun H2 l2 n2 o2=>?_
 exact h H2 _ ⟨.of_le (AHeap.le_trans l1 l2),o1.le l2,.inr ⟨_,0,by omega,rfl,o2,rfl⟩⟩
theorem zfE {q:Prop} (k:NamQ q 10 15 H K):AC Tryz.prog T0 115 [.string ⟨#[112,101,116,101,114,115,101,110]⟩] H K:=by
 refine zbJ fun H1 v h=>?_
 unfold F115.B60 F115.B59
 refine zaz (by decide +kernel) ?_
 unfold F115.B58
 refine zaz (by decide +kernel) ?_
 unfold F115.B57
 refine zaz (by decide +kernel) ?_
 unfold F115.B56
 refine zaz (by decide +kernel) ?_
 unfold F115.B55
 refine zaz (by decide +kernel) ?_
 unfold F115.B54
 exact zay (by decide +kernel) (zom k h)
theorem ztZ (k:NamK 12 40 H0 K) (h:NmS H0 H v []):F115.B37 K H0.length v H:=by
 unfold F115.B37
 refine zfE (q:=False) fun v0 es0 G0 l0 f0 g0 c0 _=>zaB (zax (zag (zai (zaf rfl fun H2 l2 n2 o2=>zaG (new:=[.int .i64 10,v0]) o2 (by simp) (zaT (zaw f0)) rfl fun H3 b3 o3=>?_))))
 have l3:G0.le H3:=b3.le l2 (Nat.le_refl _)
 have h3:=h.le (AHeap.le_trans l0 l3)
 have f3:=f0.le l3
 have hl0:=l0.1
 unfold F115.B36 F115.L31
 refine ⟨fun x2 x4 x9 x11 G=>H0.length=x2∧G0.length=x9∧∃ (i:Nat) (es:List (Int × Int)),x11=i∧i≤es0.length∧NmS H0 G x4 es∧EdR 12 es∧es.length≤i∧Own G G0.length 26 [.int .i64 10,v0]∧Fresh H.length G v0 66 2 (LE es0)∧∀ b,bk x4=some b→b≠G0.length∧bk v0≠some b,fun _ _ _ x11 _=>es0.length-x11.toNat,⟨rfl,rfl,0,[],rfl,by omega,h3,.nil,by simp,o3,f3,fun b hb=>?_⟩,?_⟩
 ·have h4:=(h.f.bk_lt hb).2
  exact ⟨by omega,fun e=>by have:=(f0.bk_lt e).1;omega⟩
 rintro x2 x4 x9 x11 G ⟨rfl,rfl,i,es,rfl,hi,hS,hE,hl,oG,fG,hbk⟩
 have eG:=fG.edges
 unfold F115.B35
 refine zab oG rfl (eG.len (zaa (fun hb=>?_) fun hb=>?_))
 ·have hlt:i<es0.length:=by have:=of_decide_eq_true hb;omega
  have hm:es0.getD i (0,0)∈es0:=by rw [zae hlt];exact List.getElem_mem _
  have hr:=g0.rng _ hm
  have hr12:EdR 12 (es++[es0.getD i (0,0)]):=fun e he=>by
   rcases List.mem_append.1 he with he|he
   ·exact hE e he
   ·rw [List.mem_singleton.1 he];omega
  obtain ⟨bb,oo,hk,q1,q2⟩:=eG.idx (show (0:Int)≤i by omega) (by omega)
  simp only [Int.toNat_natCast] at q1 q2
  unfold F115.B34
  refine zab oG rfl (hk _ (zap q1 (zaa (fun hc=>?_) fun hc=>?_)))
  ·unfold F115.B33
   refine zab oG rfl (hk _ (zap q1 (zap q2 ?_)))
   refine zcz (x:=es0.getD i (0,0)) hS.f hS.len (by omega) fun v' G' k1 ot nb f'=>?_
   unfold F115.B32
   rw [zad (by omega) (by omega)]
   refine ⟨⟨rfl,rfl,i+1,_,by omega,by omega,⟨hS.kp.trans k1,k1.own hS.ob (Nat.lt_succ_self _),f'⟩,hr12,by simp;omega,ot _ _ (fun e=>(hbk _ e).1 rfl) oG,zaM fG fun b o hb ho=>ot b o (fun e=>(hbk b e).2 hb) ho,fun b hb=>?_⟩,by simp;omega⟩
   have h4:=nb b hb
   have h5:=oG.lt
   exact ⟨by omega,fun e=>by have:=(fG.bk_lt e).2;omega⟩
  ·unfold F115.B32
   rw [zad (by omega) (by omega)]
   exact ⟨⟨rfl,rfl,i+1,es,by omega,by omega,hS,hE,by omega,oG,fG,hbk⟩,by simp;omega⟩
 ·unfold F115.B30
  refine hS.cyc (n:=12) [0,10,11] rfl rfl hE (fun x hx=>by simp at hx;omega) (by simp;omega) fun v1 es1 G1 h1 r1 e1=>?_
  have e1:es1.length=es.length+3:=e1
  unfold F115.B29
  refine h1.push [(0,1),(10,4),(11,5)] rfl rfl (by simp) (by simp;omega) fun v2 G2 h2=>?_
  exact h2.made k (n:=12) (r1.app (by refine .cons ?_ ?_ (.cons ?_ ?_ (.cons ?_ ?_ .nil)) <;> decide)) (by simp) (by simp;omega)
def nameL:List ByteArray:=[⟨#[116,104,101,116,97]⟩,⟨#[107,52]⟩,⟨#[107,51,51]⟩,⟨#[112,114,105,115,109]⟩,⟨#[99,117,98,101]⟩,⟨#[112,101,116,101,114,115,101,110]⟩,⟨#[116,105,101,116,122,101]⟩,⟨#[102,108,111,119,101,114,53]⟩,⟨#[98,114,105,100,103,101]⟩]
theorem zmu (k:NamK 12 40 H K):AC Tryz.prog T0 115 [.string ⟨#[116,105,101,116,122,101]⟩] H K:=by
 refine zbJ fun H1 v h=>?_
 unfold F115.B60 F115.B59
 refine zaz (by decide +kernel) ?_
 unfold F115.B58
 refine zaz (by decide +kernel) ?_
 unfold F115.B57
 refine zaz (by decide +kernel) ?_
 unfold F115.B56
 refine zaz (by decide +kernel) ?_
 unfold F115.B55
 refine zaz (by decide +kernel) ?_
 unfold F115.B54
 refine zaz (by decide +kernel) ?_
 unfold F115.B53
 exact zay (by decide +kernel) (ztZ k h)
theorem zhs {q:Prop} {nm:ByteArray} (hn:nm∈nameL) (hq:q→nm∈nameL.take 6) (k:∀ n,2≤n→n≤20→NamQ q n 40 H K):AC Tryz.prog T0 115 [.string nm] H K:=by
 unfold nameL at hn
 simp only [List.mem_cons,List.not_mem_nil,or_false] at hn
 rcases hn with rfl|rfl|rfl|rfl|rfl|rfl|rfl|rfl|rfl
 ·refine zbJ fun H1 v h=>?_
  unfold F115.B60 F115.B59
  exact zay (by decide +kernel) (zwq (k 2 (by decide) (by decide)) h)
 ·refine zbJ fun H1 v h=>?_
  unfold F115.B60 F115.B59
  refine zaz (by decide +kernel) ?_
  unfold F115.B58
  exact zay (by decide +kernel) (zBj (k 4 (by decide) (by decide)) h)
 ·refine zbJ fun H1 v h=>?_
  unfold F115.B60 F115.B59
  refine zaz (by decide +kernel) ?_
  unfold F115.B58
  refine zaz (by decide +kernel) ?_
  unfold F115.B57
  exact zay (by decide +kernel) (zzS (k 6 (by decide) (by decide)) h)
 ·refine zbJ fun H1 v h=>?_
  unfold F115.B60 F115.B59
  refine zaz (by decide +kernel) ?_
  unfold F115.B58
  refine zaz (by decide +kernel) ?_
  unfold F115.B57
  refine zaz (by decide +kernel) ?_
  unfold F115.B56
  exact zay (by decide +kernel) (zwP (k 6 (by decide) (by decide)) h)
 ·refine zbJ fun H1 v h=>?_
  unfold F115.B60 F115.B59
  refine zaz (by decide +kernel) ?_
  unfold F115.B58
  refine zaz (by decide +kernel) ?_
  unfold F115.B57
  refine zaz (by decide +kernel) ?_
  unfold F115.B56
  refine zaz (by decide +kernel) ?_
  unfold F115.B55
  exact zay (by decide +kernel) (zyg (k 8 (by decide) (by decide)) h)
 ·exact zfE fun v es G l f g c x=>k 10 (by decide) (by decide) v es G l f g (by omega) x
 ·exact zmu fun v es G l f g c=>k 12 (by decide) (by decide) v es G l f g c fun x=>absurd (hq x) (by simp [nameL])
 ·refine zbJ fun H1 v h=>?_
  unfold F115.B60 F115.B59
  refine zaz (by decide +kernel) ?_
  unfold F115.B58
  refine zaz (by decide +kernel) ?_
  unfold F115.B57
  refine zaz (by decide +kernel) ?_
  unfold F115.B56
  refine zaz (by decide +kernel) ?_
  unfold F115.B55
  refine zaz (by decide +kernel) ?_
  unfold F115.B54
  refine zaz (by decide +kernel) ?_
  unfold F115.B53
  refine zaz (by decide +kernel) ?_
  unfold F115.B52
  exact zay (by decide +kernel) (zs4 (fun v es G l f g c=>k 20 (by decide) (by decide) v es G l f g c fun x=>absurd (hq x) (by simp [nameL])) h)
 ·refine zbJ fun H1 v h=>?_
  unfold F115.B60 F115.B59
  refine zaz (by decide +kernel) ?_
  unfold F115.B58
  refine zaz (by decide +kernel) ?_
  unfold F115.B57
  refine zaz (by decide +kernel) ?_
  unfold F115.B56
  refine zaz (by decide +kernel) ?_
  unfold F115.B55
  refine zaz (by decide +kernel) ?_
  unfold F115.B54
  refine zaz (by decide +kernel) ?_
  unfold F115.B53
  refine zaz (by decide +kernel) ?_
  unfold F115.B52
  refine zaz (by decide +kernel) ?_
  unfold F115.B51
  exact zay (by decide +kernel) (ztS (fun v es G l f g c=>k 10 (by decide) (by decide) v es G l f g c fun x=>absurd (hq x) (by simp [nameL])) h)
theorem zfM {nm:ByteArray} (hn:nm∈nameL) (k:∀ n,2≤n→n≤20→NamK n 40 H K):AC Tryz.prog T0 115 [.string nm] H K:=
 zhs (q:=False) hn (fun h=>h.elim) fun n a b=>(k n a b).q
end Go.Proofs
namespace Go.Proofs
open Go.Abs

variable {H G G' Hb H0:AHeap} {v u f w:Value} {l m D:List Int} {es fs:List (Int × Int)} {K:Value→AHeap→Prop} {bs:Nat} {n:Int}

theorem zbg {m0:Nat} {t:TypeId} (h:Sl m0 H v t 2 (LE es)):Edges H v es:=by
 rcases h with ⟨h1,h2⟩|⟨b,n,pre,post,h1,rfl,h3,h4⟩
 ·have:es=[]:=by
   cases es with
   | nil=>rfl
   | cons x l=>rw [zbR] at h1;cases h1
  subst this
  rcases h2 with rfl|⟨a,rfl⟩
  ·exact .inl ⟨rfl,rfl⟩
  ·exact .inr ⟨a,0,rfl,.inl rfl⟩
 ·have hn:n=es.length:=by rw [zaI] at h4;omega
  subst hn
  refine .inr ⟨_,_,rfl,.inr ⟨rfl,fun i x hx=>?_⟩⟩
  have hi:i<es.length:=zaj hx
  have hg:=zju es i x hx
  have key:∀ j,j<(LE es).length→H.cell b (pre.length+j)=(LE es)[j]?:=fun j hj=>by
   rw [h3.cell,List.append_assoc,List.getElem?_append_right (Nat.le_add_right _ _),Nat.add_sub_cancel_left,List.getElem?_append_left hj]
  have hl:=zaI es
  refine ⟨?_,?_⟩
  ·rw [key _ (by omega)];exact hg.1
  ·rw [Nat.add_assoc,key _ (by omega)];exact hg.2
theorem Src.but {x:Nat} (h:Src Hb bs G) (b:But x G G') (hx:bs<x):Src Hb bs G':=by
 obtain ⟨h1,h2,cv,l,a,y,h3,h4,h5,h6,h7⟩:=h
 exact ⟨b.le h1 (by omega),h2,cv,l,a,y,h3,h4,b.own h5 (by omega),h6,h7⟩
theorem Kb.but {x:Nat} (h:Kb bs H G) (b:But x G G') (hx:H.length≤x):Kb bs H G':=⟨by rw [b.len];exact h.len,fun q o hq ho=>by
 have:=zaj ho
 rw [b.same q (by omega)];exact h.old q o hq ho⟩
theorem Kb.own {b:Nat} {t:TypeId} {cs:List Value} (h:Kb bs H G) (o:Own H b t cs) (hb:b≠bs):Own G b t cs:=h.old b _ hb o
theorem zaC {m0:Nat} {t:TypeId} {z:Nat} {cs:List Value} (h:Fresh m0 H v t z cs) (k:Kb bs H G) (hm:bs<m0):Fresh m0 G v t z cs:=zaM h fun b o hb ho=>k.old b o (by have:=(h.bk_lt hb).1;omega) ho
theorem zcB {x2:Nat} (s:Src Hb bs G) (kb:Kb bs H G) (hbs:bs<x2) (hx:H.length≤x2) (ob:Own G x2 26 [.int .i64 0,.slice none 0 0]) (h1:v.oneCell'=true) (k:∀ G',But x2 G G'→Kb bs H G'→Src Hb bs G'→K (.agg ⟨[.int .i64 n,v]⟩) G') :
 stK G x2 0 [.int .i64 n,v] (fun H7=>ldI .i64 H7 x2 0 (fun v8=>ld1 H7 x2 1 (fun v9=>K (.agg ⟨[.int .i64 v8,v9]⟩) H7))):=by
 refine zaG (new:=[.int .i64 n,v]) ob (by simp) (zaT h1) rfl fun G5 b5 o5=>zac o5 rfl (zab o5 rfl ?_)
 exact k G5 b5 (kb.but b5 hx) (s.but b5 hbs)
structure Gd2 (n:Int) (es:List (Int × Int)):Prop where
 pos:0<es.length
 len:es.length≤2000
 rng:EdR n es
 lo:2≤n
 hi:n≤200
theorem zvJ {i c:Nat} (h:i<c) (hc:c≤9):∃ nm∈nameL,((nameL.take c).map Value.string)[i]?=some (.string nm):=by
 have hi:i<nameL.length:=by have:nameL.length=9:=rfl;omega
 refine ⟨nameL[i],List.getElem_mem hi,?_⟩
 rw [List.getElem?_map,List.getElem?_take_of_lt h,List.getElem?_eq_getElem hi];rfl
theorem zs7 {i c:Nat} (h:i<c) (hc:c≤9):∃ nm,nm∈nameL∧nm∈nameL.take c∧((nameL.take c).map Value.string)[i]?=some (.string nm):=by
 have hi:i<nameL.length:=by have:nameL.length=9:=rfl;omega
 refine ⟨nameL[i],List.getElem_mem hi,?_,?_⟩
 ·have hi2:i<(nameL.take c).length:=by rw [List.length_take];omega
  have e:(nameL.take c)[i]=nameL[i]:=List.getElem_take
  rw [← e];exact List.getElem_mem _
 ·rw [List.getElem?_map,List.getElem?_take_of_lt h,List.getElem?_eq_getElem hi];rfl
theorem zev (hs:Src Hb bs H) (k:∀ v' n es G,Kb bs H G→Src Hb bs G→Fresh H.length G v' 66 2 (LE es)→Gd n es→IsG n es→K (.agg ⟨[.int .i64 n,v']⟩) G) :
 AC Tryz.prog T0 65 [.pointer (some ⟨bs,0,none⟩)] H K:=by
 have hbs:=hs.lt
 apply F65.ac
 unfold F65.B6
 refine zaf rfl fun H1 l1 n1 o1=>?_
 unfold F65.B5
 refine zav (hs.le l1) fun r G1 k1 s1 r0 r1 _=>zag (zaa (fun hb=>?_) fun hb=>?_)
 ·unfold F65.B4
  have kb1:Kb bs H G1:=(Kb.of_le l1).trans k1
  have ob1:=k1.own o1 (by omega)
  refine zaf rfl fun G2 l2 n2 o2=>?_
  have kb2:=kb1.trans (.of_le l2)
  have hG1:=kb1.len
  unfold F65.B3
  refine zba (zav (s1.le l2) fun r' G3 k3 s3 r0' r1' _=>zag ?_)
  have hr:=r1' (by decide)
  obtain ⟨nm,hnm,hnm6,hget⟩:=zs7 (i:=r'.toNat) (c:=6) (by omega) (by decide)
  have o3:=k3.own o2 (by omega)
  have kb3:=kb2.trans k3
  have hG3:=kb3.len
  have ob3:=k3.own (ob1.le l2) (by omega)
  refine zan r0' hr (zab o3 hget (znI (zhs (q:=True) hnm (fun _=>hnm6) fun n a0 a1 v0 es0 G4 l4 f4 g4 c4 gq4=>zaB (zax (zag (zai (zaf rfl fun G5 l5 n5 o5=>zaG (new:=[.int .i64 n,v0]) o5 (by simp) (zaT (zaw f4)) rfl fun G6 b6 o6=>?_)))))))
  have l6:G4.le G6:=b6.le l5 (Nat.le_refl _)
  have l36:=AHeap.le_trans l4 l6
  have f6:=f4.le l6
  have s6:=s3.le l36
  have ob6:=ob3.le l36
  have kb6:=kb3.trans (.of_le l36)
  have hG6:=kb6.len
  have hl4:=l4.1
  unfold F65.B2
  refine zac o6 rfl (zab o6 rfl (zac o6 rfl (zc1 s6 (by omega) fun w D G7 k7 s7 f7 hDp=>?_)))
  have o7:=k7.own o6 (by omega)
  have ob7:=k7.own ob6 (by omega)
  have kb7:=kb6.trans k7
  have f67:=zaC f6 k7 (by omega)
  refine ⟨zac o7 rfl (zab o7 rfl ⟨rfl,rfl⟩),?_⟩
  refine zfC f67.edges g4 f7.ints hDp.len (fun x hx=>by have:=hDp.rng hx;omega) fun v' es' G8 l8 f8 g8 e8=>zax (zag (zcB (s7.le l8) (kb7.trans (.of_le l8)) hbs (Nat.le_refl _) (ob7.le l8) (zaw f8) fun G9 b9 kb9 s9=>?_))
  have hG7:=ob7.lt
  exact k v' n es' G9 kb9 s9 (f8.but b9 (by omega) |>.less (by omega)) g8 (by rw [e8];exact ((gq4 trivial).cu.ren hDp).isG)
 ·unfold F65.B1
  have kb1:Kb bs H G1:=(Kb.of_le l1).trans k1
  have ob1:=k1.own o1 (by omega)
  have hG1:=k1.len
  refine zaf rfl fun G2 l2 n2 o2=>?_
  refine zbf (l:=[2,4,4,6,6,8,8,10]) (s1.le l2) (zau (l:=[2,4,4,6,6,8,8,10]) o2) (by decide) (by decide) (fun x hx=>by simp at hx;omega) (fun G3 k3=>zau (l:=[2,4,4,6,6,8,8,10]) (k3.own o2 (by omega))) fun r' G3 k3 s3 hr=>zag ?_
  have hr:2≤r'∧r'≤10∧r'%2=0:=by simp at hr;omega
  have kb3:=(kb1.trans (.of_le l2)).trans k3
  have ob3:=k3.own (ob1.le l2) (by omega)
  have hG3:=k3.len
  have hG2:=l2.1
  refine zgb s3 hr.1 (by omega) hr.2.2 fun v' es' G4 k4 s4 f4 g4 gq4=>zax (zag (zcB s4 (kb3.trans k4) hbs (Nat.le_refl _) (k4.own ob3 (by omega)) (zaw f4) fun G9 b9 kb9 s9=>?_))
  exact k v' r' es' G9 kb9 s9 (f4.but b9 (by omega) |>.less (by omega)) g4 (gq4 hr.2.1)
theorem zcr (hs:Src Hb bs H) (k:∀ v' n es G,Kb bs H G→Src Hb bs G→Fresh H.length G v' 66 2 (LE es)→Gd n es→2≤n→n≤20→K (.agg ⟨[.int .i64 n,v']⟩) G) :
 AC Tryz.prog T0 65 [.pointer (some ⟨bs,0,none⟩)] H K:=
 zev hs fun v' n es G kb s f g hg=>k v' n es G kb s f g hg.ed.lo hg.ed.hi
theorem znT {n2:Int} (h:Edges H v es) (g:Edges H w fs) (hg:Gd n es) (hf:Gd n2 fs) (a0:2≤n) (a1:n≤100) (b0:2≤n2) (b1:n2≤100) (k:∀ v' es' G,H.le G→Fresh H.length G v' 66 2 (LE es')→Gd2 (n+n2) es'→K (.agg ⟨[.int .i64 (n+n2),v']⟩) G) :
 AC Tryz.prog T0 118 [.agg ⟨[.int .i64 n,v]⟩,.agg ⟨[.int .i64 n2,w]⟩] H K:=by
 have gl:=hg.len;have fl:=hf.len;have gp:=hg.pos
 apply F118.ac
 unfold F118.B8
 refine zaf (zak (zah h)) fun H1 l1 n1 o1=>zaf (zak (zah g)) fun H2 l2 n2' o2=>zaf rfl fun H3 l3 n3 o3=>?_
 have o13:=(o1.le l2).le l3
 have o23:=o2.le l3
 have l03:=AHeap.le_trans l1 (AHeap.le_trans l2 l3)
 have hl03:=l03.1
 unfold F118.B7
 refine zaf rfl fun H4 l4 n4 o4=>zab (o13.le l4) rfl ?_
 have l04:=AHeap.le_trans l03 l4
 refine zd1 (m0:=H3.length) (es:=[]) (Fresh.sl (.inr ⟨_,0,Nat.le_refl _,rfl,o4,rfl⟩)) l4.1 (h.le l04) gp (by simp;omega) fun v5 H5 k5 _ f5=>?_
 have kp5:=(Keep.of_le l4).trans k5
 rw [List.nil_append] at f5
 unfold F118.B6 F118.L2
 refine ⟨fun x2 x3 x4 x5 x6 G=>H.length=x2∧H1.length=x3∧H2.length=x4∧Keep H3.length H3 G∧∃ (i:Nat) (es':List (Int × Int)),x6=i∧i≤fs.length∧Fresh H3.length G x5 66 2 (LE es')∧EdR (n+n2) es'∧es'.length=es.length+i,fun _ _ _ _ x6 _=>fs.length-x6.toNat,⟨rfl,rfl,rfl,kp5,0,es,rfl,by omega,f5,hg.rng.up (by omega),rfl⟩,?_⟩
 rintro x2 x3 x4 x5 x6 G ⟨rfl,rfl,rfl,kp,i,es',rfl,hi,hF,hE,hl⟩
 have lG:H.le G:=kp.le l03 hl03
 have p1:=kp.own o13 (o13.lt);have p2:=kp.own o23 (o23.lt);have p3:=kp.own o3 (o3.lt)
 have hgG:=g.le lG
 unfold F118.B5
 refine zab p2 rfl (hgG.len (zaa (fun hb=>?_) fun hb=>?_))
 ·have hlt:i<fs.length:=by have:=of_decide_eq_true hb;omega
  have hm:fs.getD i (0,0)∈fs:=by rw [zae hlt];exact List.getElem_mem _
  have hr:=hf.rng _ hm
  obtain ⟨bb,oo,hk,q1,q2⟩:=hgG.idx (show (0:Int)≤i by omega) (by omega)
  simp only [Int.toNat_natCast] at q1 q2
  unfold F118.B4
  refine zab p2 rfl (hk _ (zap q1 (zac p1 rfl (zab p2 rfl (hk _ (zap q2 (zac p1 rfl ?_)))))))
  rw [zad (by omega) (by omega),zad (by omega) (by omega)]
  refine zcz (x:=((fs.getD i (0,0)).1+n,(fs.getD i (0,0)).2+n)) hF kp.len (by omega) fun v3 G4 k4 _ _ f4=>?_
  unfold F118.B3
  rw [zad (by omega) (by omega)]
  exact ⟨⟨rfl,rfl,rfl,kp.trans k4,i+1,_,by omega,by omega,f4,hE.snoc ⟨by omega,by omega⟩ ⟨by omega,by omega⟩,by simp;omega⟩,by simp;omega⟩
 ·have hge:=of_decide_eq_false hb
  unfold F118.B1
  refine zac p1 rfl (zac p2 rfl ?_)
  rw [zad (by omega) (by omega)]
  refine zdX hF.edges (by omega) fun v' G2 l2' f2=>zax (zag ?_)
  have hkl:=kp.len
  refine zaG (new:=[.int .i64 (n+n2),v']) (p3.le l2') (by simp) (zaT (zaw f2)) rfl fun G5 b5 o5=>zac o5 rfl (zab o5 rfl ?_)
  have h3:=o3.lt
  have h12:=l1.1
  have h22:=l2.1
  exact k v' _ G5 (b5.le (AHeap.le_trans lG l2') (by omega)) ((f2.but b5 (by omega)).less (by omega)) ⟨by rw [zcp,List.length_map];omega,by rw [zcp,List.length_map];omega,hE.made,by omega,by omega⟩
theorem Gd.two (h:Gd n es) (a:2≤n) (b:n≤200):Gd2 n es:=⟨h.pos,by have:=h.len;omega,h.rng,a,b⟩
theorem zcH (hs:Src Hb bs H) (k:∀ v' n es G,Kb bs H G→Src Hb bs G→Fresh H.length G v' 66 2 (LE es)→Gd2 n es→K (.agg ⟨[.int .i64 n,v']⟩) G) :
 AC Tryz.prog T0 58 [.pointer (some ⟨bs,0,none⟩)] H K:=by
 have hbs:=hs.lt
 apply F58.ac
 unfold F58.B8
 refine zaf rfl fun H1 l1 n1 o1=>?_
 unfold F58.B7
 refine zav (hs.le l1) fun r G1 k1 s1 r0 r1 _=>zag ?_
 have kb1:Kb bs H G1:=(Kb.of_le l1).trans k1
 have ob1:=k1.own o1 (by omega)
 have hG1:=k1.len
 refine zaa (fun hb=>?_) fun hb=>?_
 ·unfold F58.B6
  apply F114.ac
  unfold F114.B2 F114.B1
  refine zaf rfl fun G2 l2 n2 o2=>?_
  have kb2:=kb1.trans (.of_le l2)
  unfold F58.B5
  refine zba (zav (s1.le l2) fun r' G3 k3 s3 r0' r1' _=>zag ?_)
  have hr:=r1' (by decide)
  obtain ⟨nm,hnm,hget⟩:=zvJ (i:=r'.toNat) (c:=9) (by omega) (by decide)
  have o3:=k3.own o2 (by omega)
  have kb3:=kb2.trans k3
  have hG3:=kb3.len
  have ob3:=k3.own (ob1.le l2) (by omega)
  refine zan r0' hr (zab o3 hget (znI (zfM hnm fun n a0 a1 v0 es0 G4 l4 f4 g4 c4=>zaB (zax (zag (zai (zaf rfl fun G5 l5 n5 o5=>zaG (new:=[.int .i64 n,v0]) o5 (by simp) (zaT (zaw f4)) rfl fun G6 b6 o6=>?_)))))))
  have l6:G4.le G6:=b6.le l5 (Nat.le_refl _)
  have l36:=AHeap.le_trans l4 l6
  have f6:=f4.le l6
  have s6:=s3.le l36
  have ob6:=ob3.le l36
  have kb6:=kb3.trans (.of_le l36)
  have hG6:=kb6.len
  have hl4:=l4.1
  unfold F58.B4
  refine zac o6 rfl (zab o6 rfl (zac o6 rfl (zeW s6 (by omega) fun w D G7 k7 s7 f7 hDl hDr=>?_)))
  have o7:=k7.own o6 (by omega)
  have ob7:=k7.own ob6 (by omega)
  have kb7:=kb6.trans k7
  have f67:=zaC f6 k7 (by omega)
  refine ⟨zac o7 rfl (zab o7 rfl ⟨rfl,rfl⟩),?_⟩
  refine zgn f67.edges g4 f7.ints hDl hDr fun v' es' G8 l8 f8 g8=>zax (zag (zcB (s7.le l8) (kb7.trans (.of_le l8)) hbs (Nat.le_refl _) (ob7.le l8) (zaw f8) fun G9 b9 kb9 s9=>?_))
  have hG7:=ob7.lt
  exact k v' n es' G9 kb9 s9 (f8.but b9 (by omega) |>.less (by omega)) (g8.two a0 (by omega))
 ·unfold F58.B3
  refine zav s1 fun r' G2 k2 s2 r0' r1' _=>zag ?_
  have kb2:=kb1.trans k2
  have ob2:=k2.own ob1 (by omega)
  have hG2:=k2.len
  refine zaa (fun hb=>?_) fun hb=>?_
  ·unfold F58.B2
   refine zcr s2 fun va na ea G3 k3 s3 f3 g3 a0 a1=>zax (zag ?_)
   have hG3:=k3.len
   refine zcr s3 fun vb nb eb G4 k4 s4 f4 g4 b0 b1=>zax (zag ?_)
   have f34:=zaC f3 k4 (by omega)
   have kb4:=(kb2.trans k3).trans k4
   have ob4:=k4.own (k3.own ob2 (by omega)) (by omega)
   have hG4:=k4.len
   refine znT f34.edges f4.edges g3 g4 a0 (by omega) b0 (by omega) fun v' es' G8 l8 f8 g8=>zax (zag (zcB (s4.le l8) (kb4.trans (.of_le l8)) hbs (Nat.le_refl _) (ob4.le l8) (zaw f8) fun G9 b9 kb9 s9=>?_))
   exact k v' _ es' G9 kb9 s9 (f8.but b9 (by omega) |>.less (by omega)) g8
  ·unfold F58.B1
   refine zaf rfl fun G3 l3 n3 o3=>?_
   refine zbf (l:=[2,4,6,8,10,12,14,20]) (s2.le l3) (zau (l:=[2,4,6,8,10,12,14,20]) o3) (by decide) (by decide) (fun x hx=>by simp at hx;omega) (fun G3 k3=>zau (l:=[2,4,6,8,10,12,14,20]) (k3.own o3 (by omega))) fun r' G4 k4 s4 hr=>zag ?_
   have hr:2≤r'∧r'≤20∧r'%2=0:=by simp at hr;omega
   have kb4:=(kb2.trans (.of_le l3)).trans k4
   have ob4:=k4.own (ob2.le l3) (by omega)
   have hG4:=k4.len
   have hG3:=l3.1
   refine zhz s4 hr.1 (by omega) hr.2.2 fun v' es' G5 k5 s5 f5 g5=>zax (zag (zcB s5 (kb4.trans k5) hbs (Nat.le_refl _) (k5.own ob4 (by omega)) (zaw f5) fun G9 b9 kb9 s9=>?_))
   exact k v' r' es' G9 kb9 s9 (f5.but b9 (by omega) |>.less (by omega)) (g5.two hr.1 (by omega))
end Go.Proofs
namespace Go.Proofs
open Go.Abs

variable {H G G' B0 Hb:AHeap} {v u f w:Value} {l m c L N D:List Int} {es:List (Int × Int)} {K:Value→AHeap→Prop} {bl bn bL bs:Nat} {n:Int}

structure K2b (b c:Nat) (H G:AHeap):Prop where
 len:H.length≤G.length
 old:∀ q o,q≠b→q≠c→H[q]?=some (some o)→G[q]?=some (some o)
theorem K2b.refl {b c:Nat}:K2b b c H H:=⟨Nat.le_refl _,fun _ _ _ _ h=>h⟩
theorem K2b.trans {b c:Nat} (h:K2b b c H G) (k:K2b b c G G'):K2b b c H G':=⟨Nat.le_trans h.len k.len,fun q o h1 h2 ho=>k.old q o h1 h2 (h.old q o h1 h2 ho)⟩
theorem K2b.of_le {b c:Nat} (h:H.le G):K2b b c H G:=⟨h.1,fun q o _ _ ho=>h.2 q o ho⟩
theorem K2b.but1 {b c:Nat} (h:But b H G):K2b b c H G:=⟨Nat.le_of_eq h.len.symm,fun q o hq _ ho=>by rw [h.same q hq];exact ho⟩
theorem K2b.but2 {b c:Nat} (h:But c H G):K2b b c H G:=⟨Nat.le_of_eq h.len.symm,fun q o _ hq ho=>by rw [h.same q hq];exact ho⟩
theorem K2b.le {b c:Nat} (h:K2b b c H G) (h0:B0.le H) (hb:B0.length≤b) (hc:B0.length≤c):B0.le G:=⟨Nat.le_trans h0.1 h.len,fun q o ho=>by
 have:=zaj ho
 exact h.old q o (by omega) (by omega) (h0.2 q o ho)⟩
theorem K2b.own {b c q:Nat} {t:TypeId} {cs:List Value} (h:K2b b c H G) (o:Own H q t cs) (h1:q≠b) (h2:q≠c):Own G q t cs:=h.old q _ h1 h2 o
def Q3 (l:List Int):Prop:=∀ x∈l,0≤x∧x≤3
theorem Q3.set {i:Nat} {x:Int} (h:Q3 l) (hx:0≤x∧x≤3):Q3 (l.set i x):=fun y hy=>by
 rcases List.mem_or_eq_of_mem_set hy with hy|rfl
 ·exact h y hy
 ·exact hx
theorem Q3.get {i:Nat} (h:Q3 l):0≤l.getD i 0∧l.getD i 0≤3:=by
 by_cases hi:i<l.length
 ·rw [zae hi];exact h _ (List.getElem_mem hi)
 ·simp [List.getD,List.getElem?_eq_none (show l.length≤i by omega)]
theorem Q3.zeros (k:Nat):Q3 (List.replicate k 0):=fun x hx=>by rw [List.mem_replicate] at hx;omega
theorem zw5 {a b:Int} (ha:0≤a∧a≤3) (hb:0≤b∧b≤3):0≤IntKind.i64.wrap ((BitVec.ofInt 64 a ^^^ BitVec.ofInt 64 b).toNat:Int)∧IntKind.i64.wrap ((BitVec.ofInt 64 a ^^^ BitVec.ofInt 64 b).toNat:Int)≤3:=by
 have a4:a=0∨a=1∨a=2∨a=3:=by omega
 have b4:b=0∨b=1∨b=2∨b=3:=by omega
 rcases a4 with rfl|rfl|rfl|rfl <;> rcases b4 with rfl|rfl|rfl|rfl <;> decide +kernel
abbrev slV (b n:Nat):Value:=.slice (some ⟨b,0,none⟩) n (n+1)
theorem zgQ {m x:Int} (k:K (.bool (x==0)) H):AC Tryz.prog T0 205 [.int .i64 1,.int .i64 m,.int .i64 x] H K:=by
 apply F205.ac
 unfold F205.B4 F205.B3
 refine zaz rfl ?_
 unfold F205.B1
 exact k
theorem zkx (h:Edges H v es) (hg:IsG n es) (k:∀ b G D,H.le G→H.length≤b→Own G b 2 (LI D)→D.length=n.toNat→K (slV b n.toNat) G):AC Tryz.prog T0 184 [.agg ⟨[.int .i64 n,v]⟩] H K:=by
 have n0:=hg.ed.lo;have n1:=hg.ed.hi
 have h30:es.length≤30:=by have:=hg.ed.len;omega
 apply F184.ac
 unfold F184.B9
 refine zaf (zak (zah h)) fun H1 l1 n1' o1=>?_
 unfold F184.B8
 refine zac o1 rfl (zaF (by omega) (by omega) (by decide) fun H2 l2 n2 o2=>?_)
 have l02:=AHeap.le_trans l1 l2
 have h12:=l1.1
 unfold F184.B7 F184.L2
 refine ⟨fun x1 x3 x4 G=>H.length=x1∧slV H1.length n.toNat=x3∧H.le G∧Own G H.length 26 [.int .i64 n,v]∧∃ (i:Nat) (D:List Int),x4=i∧i≤es.length∧Own G H1.length 2 (LI D)∧D.length=n.toNat,fun _ _ x4 _=>es.length-x4.toNat,
  ⟨rfl,rfl,l02,o1.le l2,0,List.replicate n.toNat 0,rfl,by omega,by simpa using o2,by simp⟩,?_⟩
 rintro x1 x3 x4 G ⟨rfl,rfl,lG,oG,i,D,rfl,hi,oD,hD⟩
 have hne:H.length≠H1.length:=by omega
 unfold F184.B6
 refine zab oG rfl ((h.le lG).len (zaa (fun hb=>?_) fun hb=>?_))
 ·have hlt:i<es.length:=by have:=of_decide_eq_true hb;omega
  obtain ⟨e1,e2,e3,e4,e5⟩:=hg.ed.ends _ (List.getElem_mem hlt)
  rw [← zae (d:=(0,0)) hlt] at e1 e2 e3 e4
  obtain ⟨bb,oo,hk,c1,c2⟩:=(h.le lG).idx (show (0:Int)≤i by omega) (by omega)
  simp only [Int.toNat_natCast] at c1 c2
  unfold F184.B5
  refine zab oG rfl (hk _ (zap c1 (zan (by omega) (by omega) (zaO oD (by rw [List.length_map];omega) rfl fun G1 b1 o1'=>?_))))
  have lG1:H.le G1:=b1.le lG h12
  have oG1:=b1.own oG hne
  obtain ⟨bb,oo,hk,c1,c2⟩:=(h.le lG1).idx (show (0:Int)≤i by omega) (by omega)
  simp only [Int.toNat_natCast] at c1 c2
  have oD1:Own G1 H1.length 2 (LI (D.set (es.getD i (0,0)).1.toNat i)):=by simpa using o1'
  unfold F184.B4
  refine zab oG1 rfl (hk _ (zap c2 (zan (by omega) (by omega) (zaO oD1 (by rw [List.length_map,List.length_set];omega) rfl fun G2 b2 o2'=>?_))))
  have lG2:H.le G2:=b2.le lG1 h12
  have oG2:=b2.own oG1 hne
  unfold F184.B3
  rw [zad (by omega) (by omega)]
  exact ⟨⟨rfl,rfl,lG2,oG2,i+1,(D.set (es.getD i (0,0)).1.toNat i).set (es.getD i (0,0)).2.toNat i,by omega,by omega,by simpa using o2',by simpa using hD⟩,by simp;omega⟩
 ·unfold F184.B1
  exact k _ G D lG h12 oD hD
theorem znv (hg:IsG n es) (h:Edges B0 v es) (hl:B0.length≤bl) (hn:B0.length≤bn) (h1:bl≠bn) (h2:bL≠bl) (h3:bL≠bn) (hD:D.length=n.toNat) :
 ∀ (r e:Nat) (H:AHeap) (K:Value→AHeap→Prop) (L N:List Int),e+r=es.length→B0.le H→Own H bl 2 (LI L)→L.length=es.length→Q3 L→Own H bn 2 (LI N)→N.length=n.toNat→Q3 N→Own H bL 2 (LI D)→
  (∀ G x L' N',K2b bl bn H G→Own G bl 2 (LI L')→L'.length=es.length→Q3 L'→Own G bn 2 (LI N')→N'.length=n.toNat→Q3 N'→(x=0∨x=1)→K (.int .i64 x) G)→
  AC Tryz.prog T0 183 [.agg ⟨[.int .i64 n,v]⟩,.int .i64 1,.int .i64 4,slV bl es.length,slV bn n.toNat,slV bL n.toNat,.int .i64 (e:Nat),.bool false] H K:=by
 have n0:=hg.ed.lo;have n1:=hg.ed.hi
 have h30:es.length≤30:=by have:=hg.ed.len;omega
 intro r
 induction r with
 | zero=>
  intro e H K L N he lB oL hL qL oN hN qN oD k
  apply F183.ac
  unfold F183.B26
  refine zaf (zak (zah (h.le lB))) fun H1 l1 n1' o1=>?_
  unfold F183.B25
  refine zab o1 rfl ((h.le (AHeap.le_trans lB l1)).len (zay (by simp;omega) ?_))
  unfold F183.B24
  exact k H1 1 L N (.of_le l1) (oL.le l1) hL qL (oN.le l1) hN qN (.inr rfl)
 | succ r ih=>
  intro e H K L N he lB oL hL qL oN hN qN oD k
  have hlt:e<es.length:=by omega
  apply F183.ac
  unfold F183.B26
  refine zaf (zak (zah (h.le lB))) fun H1 l1 n1' o1=>?_
  have lB1:=AHeap.le_trans lB l1
  have hblH:=oL.lt;have hbnH:=oN.lt
  unfold F183.B25
  refine zab o1 rfl ((h.le lB1).len (zaz (by simp;omega) ?_))
  obtain ⟨e1,e2,e3,e4,e5⟩:=hg.ed.ends _ (List.getElem_mem hlt)
  rw [← zae (d:=(0,0)) hlt] at e1 e2 e3 e4
  obtain ⟨bb,oo,hk,c1,c2⟩:=(h.le lB1).idx (show (0:Int)≤e by omega) (by omega)
  simp only [Int.toNat_natCast] at c1 c2
  unfold F183.B23
  refine zab o1 rfl (hk _ (zap c1 (zab o1 rfl (hk _ (zap c2 ?_)))))
  obtain ⟨a,ha⟩:∃ a:Nat,(es.getD e (0,0)).1=a:=⟨_,(Int.toNat_of_nonneg e1).symm⟩
  obtain ⟨b,hb⟩:∃ b:Nat,(es.getD e (0,0)).2=b:=⟨_,(Int.toNat_of_nonneg e3).symm⟩
  rw [ha,hb]
  have han:a<n.toNat:=by omega
  have hbn:b<n.toNat:=by omega
  unfold F183.B22 F183.B21
  refine zaz rfl ?_
  unfold F183.B19 F183.L2
  refine ⟨fun x1 x2 x3 x4 x5 x6 x7 x8 x17 x18 x20 x21 x22 G=>(1:Int)=x1∧(4:Int)=x2∧slV bl es.length=x3∧slV bn n.toNat=x4∧slV bL n.toNat=x5∧(e:Int)=x6∧false=x7∧H.length=x8∧(a:Int)=x17∧(b:Int)=x18∧(3:Int)=x20∧(0:Int)=x21∧∃ (t:Nat) (L' N':List Int),x22=(t:Int)+1∧t≤3∧K2b bl bn H1 G∧Own G bl 2 (LI L')∧L'.length=es.length∧Q3 L'∧Own G bn 2 (LI N')∧N'.length=n.toNat∧Q3 N',
   fun _ _ _ _ _ _ _ _ _ _ _ _ x22 _=>4-x22.toNat,⟨rfl,rfl,rfl,rfl,rfl,rfl,rfl,rfl,rfl,rfl,by decide,rfl,0,L,N,rfl,by omega,.refl,oL.le l1,hL,qL,oN.le l1,hN,qN⟩,?_⟩
  rintro x1 x2 x3 x4 x5 x6 x7 x8 x17 x18 x20 x21 x22 G ⟨rfl,rfl,rfl,rfl,rfl,rfl,rfl,rfl,rfl,rfl,rfl,rfl,t,L',N',rfl,ht,kb,oL',hL',qL',oN',hN',qN'⟩
  unfold F183.B18
  refine zaa (fun hc=>?_) fun hc=>?_
  rotate_left
  ·unfold F183.B1
   exact k G 0 L' N' ((K2b.of_le l1).trans kb) oL' hL' qL' oN' hN' qN' (.inl rfl)
  have ht3:t<3:=by have:=of_decide_eq_true hc;omega
  unfold F183.B17
  refine zaz (by simp;omega) ?_
  unfold F183.B16
  have qa:=qN'.get (i:=a);have qb:=qN'.get (i:=b)
  refine zan (by omega) (by omega) (zac (n:=N'.getD a 0) oN' (by rw [Int.toNat_natCast,List.getElem?_map,List.getElem?_eq_getElem (by omega),← zae (d:=0) (by omega)];rfl) (zan (by omega) (by omega) (zac (n:=N'.getD b 0) oN' (by rw [Int.toNat_natCast,List.getElem?_map,List.getElem?_eq_getElem (by omega),← zae (d:=0) (by omega)];rfl) ?_)))
  -- back to the old sums
  have goB7:∀ G3 x L3 N3,K2b bl bn H1 G3→Own G3 bl 2 (LI L3)→L3.length=es.length→Q3 L3→Own G3 bn 2 (LI N3)→N3.length=n.toNat→Q3 N3→(x=0∨x=1)→
   F183.B7 K (fun x1 x2 x3 x4 x5 x6 x7 x8 x17 x18 x20 x21 x22 G=>((1:Int)=x1∧(4:Int)=x2∧slV bl es.length=x3∧slV bn n.toNat=x4∧slV bL n.toNat=x5∧(e:Int)=x6∧false=x7∧H.length=x8∧(a:Int)=x17∧(b:Int)=x18∧(3:Int)=x20∧(0:Int)=x21∧∃ (t:Nat) (L' N':List Int),x22=(t:Int)+1∧t≤3∧K2b bl bn H1 G∧Own G bl 2 (LI L')∧L'.length=es.length∧Q3 L'∧Own G bn 2 (LI N')∧N'.length=n.toNat∧Q3 N')∧4-x22.toNat<4-((t:Int)+1).toNat)
    1 4 (slV bl es.length) (slV bn n.toNat) (slV bL n.toNat) (e:Int) false H.length (a:Int) (b:Int) 3 x ((t:Int)+1) (N'.getD a 0) (N'.getD b 0) G3:=by
   intro G3 x L3 N3 kb3 oL3 hL3 qL3 oN3 hN3 qN3 hx
   unfold F183.B7
   refine zan (by omega) (by omega) (zaO oN3 (by simp;omega) rfl fun G4 b4 o4=>?_)
   have o4:Own G4 bn 2 (LI (N3.set a (N'.getD a 0))):=by simpa using o4
   unfold F183.B6
   refine zan (by omega) (by omega) (zaO o4 (by simp;omega) rfl fun G5 b5 o5=>?_)
   have o5:Own G5 bn 2 (LI ((N3.set a (N'.getD a 0)).set b (N'.getD b 0))):=by simpa using o5
   have kb5:K2b bl bn H1 G5:=(kb3.trans (.but2 b4)).trans (.but2 b5)
   have oL5:=b5.own (b4.own oL3 h1) h1
   have q5:Q3 ((N3.set a (N'.getD a 0)).set b (N'.getD b 0)):=(qN3.set qa).set qb
   have hN5:((N3.set a (N'.getD a 0)).set b (N'.getD b 0)).length=n.toNat:=by simpa using hN3
   have next:x=0→F183.B3 K (fun x1 x2 x3 x4 x5 x6 x7 x8 x17 x18 x20 x21 x22 G=>((1:Int)=x1∧(4:Int)=x2∧slV bl es.length=x3∧slV bn n.toNat=x4∧slV bL n.toNat=x5∧(e:Int)=x6∧false=x7∧H.length=x8∧(a:Int)=x17∧(b:Int)=x18∧(3:Int)=x20∧(0:Int)=x21∧∃ (t:Nat) (L' N':List Int),x22=(t:Int)+1∧t≤3∧K2b bl bn H1 G∧Own G bl 2 (LI L')∧L'.length=es.length∧Q3 L'∧Own G bn 2 (LI N')∧N'.length=n.toNat∧Q3 N')∧4-x22.toNat<4-((t:Int)+1).toNat)
    1 4 (slV bl es.length) (slV bn n.toNat) (slV bL n.toNat) (e:Int) false H.length (a:Int) (b:Int) 3 x ((t:Int)+1) G5:=by
    rintro rfl
    unfold F183.B3
    rw [zad (by omega) (by omega)]
    exact ⟨⟨rfl,rfl,rfl,rfl,rfl,rfl,rfl,rfl,rfl,rfl,rfl,rfl,t+1,L3,_,by omega,by omega,kb5,oL5,hL3,qL3,o5,hN5,q5⟩,by omega⟩
   unfold F183.B5
   refine zaa (fun hp=>zay rfl ?_) fun hp=>next (by have:=of_decide_eq_false hp;omega)
   unfold F183.B4
   exact k G5 x L3 _ ((K2b.of_le l1).trans kb5) oL5 hL3 qL3 o5 hN5 q5 hx
  unfold F183.B15
  refine zay rfl ?_
  unfold F183.B12
  have ht13:0≤(t:Int)+1∧(t:Int)+1≤3:=by omega
  refine zan (by omega) (by omega) (zaO oN' (by simp;omega) rfl fun G1 b1 p1=>?_)
  unfold F183.B11
  refine zan (by omega) (by omega) (zaO p1 (by simp;omega) rfl fun G2 b2 p2=>?_)
  obtain ⟨N2,hN2,oN2,qN2⟩:∃ N2:List Int,N2.length=n.toNat∧Own G2 bn 2 (LI N2)∧Q3 N2:=⟨_,by simpa using hN',by simpa using p2,(qN'.set (zw5 qa ht13)).set (zw5 qb ht13)⟩
  have kb2:K2b bl bn H1 G2:=(kb.trans (.but2 b1)).trans (.but2 b2)
  have oL2:=b2.own (b1.own oL' h1) h1
  have oD2:Own G2 bL 2 (LI D):=kb2.own (oD.le l1) h2 h3
  have rdN:∀ (i:Nat),i<n.toNat→(LI N2)[((i:Nat):Int).toNat]?=some (.int .i64 (N2.getD i 0)):=fun i hi=>by
   rw [Int.toNat_natCast,List.getElem?_map,List.getElem?_eq_getElem (by omega),← zae (d:=0) (by omega)];rfl
  have rdD:∀ (i:Nat),i<n.toNat→(LI D)[((i:Nat):Int).toNat]?=some (.int .i64 (D.getD i 0)):=fun i hi=>by
   rw [Int.toNat_natCast,List.getElem?_map,List.getElem?_eq_getElem (by omega),← zae (d:=0) (by omega)];rfl
  have no:=goB7 G2 0 L' N2 kb2 oL2 hL' qL' oN2 hN2 qN2 (.inl rfl)
  have yes:F183.B9 K (fun x1 x2 x3 x4 x5 x6 x7 x8 x17 x18 x20 x21 x22 G=>((1:Int)=x1∧(4:Int)=x2∧slV bl es.length=x3∧slV bn n.toNat=x4∧slV bL n.toNat=x5∧(e:Int)=x6∧false=x7∧H.length=x8∧(a:Int)=x17∧(b:Int)=x18∧(3:Int)=x20∧(0:Int)=x21∧∃ (t:Nat) (L' N':List Int),x22=(t:Int)+1∧t≤3∧K2b bl bn H1 G∧Own G bl 2 (LI L')∧L'.length=es.length∧Q3 L'∧Own G bn 2 (LI N')∧N'.length=n.toNat∧Q3 N')∧4-x22.toNat<4-((t:Int)+1).toNat)
   1 4 (slV bl es.length) (slV bn n.toNat) (slV bL n.toNat) (e:Int) false H.length (a:Int) (b:Int) 3 0 ((t:Int)+1) (N'.getD a 0) (N'.getD b 0) G2:=by
   unfold F183.B9
   refine zan (by omega) (by omega) (zaO oL2 (by simp;omega) rfl fun G3 b3 p3=>?_)
   have oL3:Own G3 bl 2 (LI (L'.set e ((t:Int)+1))):=by simpa using p3
   have kb3:K2b bl bn H1 G3:=kb2.trans (.but1 b3)
   have lB3:B0.le G3:=kb3.le lB1 hl hn
   have o13:Own G3 H.length 26 [.int .i64 n,v]:=kb3.own o1 (by omega) (by omega)
   unfold F183.B8
   refine zac o13 rfl (zab o13 rfl ?_)
   rw [zad (x:=(e:Int)+1) (by omega) (by omega)]
   refine ih (e+1) G3 _ (L'.set e ((t:Int)+1)) N2 (by omega) lB3 oL3 (by simpa using hL') (qL'.set ht13) (b3.own oN2 (Ne.symm h1)) hN2 qN2 (kb3.own (oD.le l1) h2 h3) fun G4 x L4 N4 k4 oL4 hL4 qL4 oN4 hN4 qN4 hx=>zag ?_
   rw [show IntKind.i64.wrap (0+x)=x from by rw [zad (by omega) (by omega)];omega]
   exact goB7 G4 x L4 N4 (kb3.trans k4) oL4 hL4 qL4 oN4 hN4 qN4 hx
  unfold F183.B10
  refine zan (by omega) (by omega) (zac oD2 (rdD a han) (zaa (fun _=>?_) fun _=>?_))
  ·refine zan (by omega) (by omega) (zac oD2 (rdD b hbn) (zaa (fun _=>yes) fun _=>zan (by omega) (by omega) (zac oN2 (rdN b hbn) (zgQ (zai (zaa (fun _=>yes) fun _=>no))))))
  ·refine zan (by omega) (by omega) (zac oN2 (rdN a han) (zgQ (zai (zaa (fun _=>?_) fun _=>no))))
   refine zan (by omega) (by omega) (zac oD2 (rdD b hbn) (zaa (fun _=>yes) fun _=>zan (by omega) (by omega) (zac oN2 (rdN b hbn) (zgQ (zai (zaa (fun _=>yes) fun _=>no))))))
theorem zrt (h:Edges H v es) (hg:IsG n es) (k:∀ b (q:Bool) G L,H.le G→H.length≤b→Own G b 2 (LI L)→L.length=es.length→Q3 L→K (.tuple ⟨[slV b es.length,.bool q]⟩) G):AC Tryz.prog T0 134 [.agg ⟨[.int .i64 n,v]⟩,.int .i64 1,.int .i64 4] H K:=by
 have n0:=hg.ed.lo;have n1:=hg.ed.hi
 have h30:es.length≤30:=by have:=hg.ed.len;omega
 apply F134.ac
 unfold F134.B4
 refine zaf (zak (zah h)) fun H1 l1 n1' o1=>?_
 unfold F134.B3
 refine zab o1 rfl ((h.le l1).len (zaF (by omega) (by omega) (by decide) fun H2 l2 n2 o2=>?_))
 have o2:Own H2 H1.length 2 (LI (List.replicate es.length 0)):=by simpa using o2
 have l02:=AHeap.le_trans l1 l2
 have o12:=o1.le l2
 have hl1:=l1.1;have hl2:=l2.1
 have fin:∀ b c G D N,H2.le G→H2.length≤b→H2.length≤c→b≠c→Own G b 2 (LI N)→N.length=n.toNat→Q3 N→Own G c 2 (LI D)→D.length=n.toNat→
  AC Tryz.prog T0 183 [.agg ⟨[.int .i64 n,v]⟩,.int .i64 1,.int .i64 4,slV H1.length es.length,slV b n.toNat,slV c n.toNat,.int .i64 0,.bool false] G (fun v14 H15=>asI .i64 v14 (fun v16=>F134.B1 K (slV H1.length es.length) v16 H15)):=by
  intro b c G D N lG hb hc hbc oN hN qN oD hD
  have hlt:=o2.lt
  refine znv (B0:=H) (bl:=H1.length) (bn:=b) (bL:=c) (D:=D) hg h (by omega) (by omega) (by omega) (by omega) (Ne.symm hbc) hD es.length 0 G _ (List.replicate es.length 0) N (by omega) (AHeap.le_trans l02 lG) (o2.le lG) (by simp) (Q3.zeros _) oN hN qN oD fun G4 x L4 N4 k4 oL4 hL4 qL4 _ _ _ hx=>zag ?_
  unfold F134.B1
  exact k H1.length _ G4 L4 (k4.le (AHeap.le_trans l02 lG) (by omega) (by omega)) hl1 oL4 hL4 qL4
 unfold F134.B2
 refine zac o12 rfl (zab o12 rfl (zac o12 rfl (zac o12 rfl (zab o12 rfl ⟨?_,?_⟩))))
 ·refine zaF (by omega) (by omega) (by decide) fun H3 l3 n3 o3=>zkx (h.le (AHeap.le_trans l02 l3)) hg fun b G D lG hb oD hD=>?_
  have oG:=(o12.le l3).le lG
  have hlt:=o3.lt
  refine ⟨zac oG rfl (zab oG rfl ⟨rfl,rfl⟩),zac oG rfl ⟨rfl,rfl⟩,?_⟩
  exact fin H2.length b G D (List.replicate n.toNat 0) (AHeap.le_trans l3 lG) (Nat.le_refl _) (by have:=l3.1;omega) (by omega) (by have:=o3.le lG;simpa using this) (by simp) (Q3.zeros _) oD hD
 ·refine zkx (h.le l02) hg fun b G D lG hb oD hD=>?_
  have oG:=o12.le lG
  have hlt:=oD.lt
  refine ⟨zac oG rfl (zab oG rfl ⟨rfl,rfl⟩),zac oG rfl ⟨rfl,rfl⟩,zaF (by omega) (by omega) (by decide) fun H3 l3 n3 o3=>?_⟩
  exact fin G.length b H3 D (List.replicate n.toNat 0) (AHeap.le_trans lG l3) lG.1 hb (by omega) (by simpa using o3) (by simp) (Q3.zeros _) (oD.le l3) hD
theorem zgy (h:Edges H v es) (hg:IsG n es) (k:∀ b (q:Bool) G c,H.le G→H.length≤b→Own G b 2 (LI c)→c.length=es.length→(∀ x∈c,0≤x∧x≤3)→K (.tuple ⟨[slV b es.length,.bool q]⟩) G):AC Tryz.prog T0 77 [.agg ⟨[.int .i64 n,v]⟩] H K:=by
 have h30:es.length≤30:=by have:=hg.ed.len;have:=hg.ed.hi;omega
 apply F77.ac
 unfold F77.B8
 refine zaf (zak (zah h)) fun H1 l1 n1' o1=>?_
 unfold F77.B7
 refine zac o1 rfl (zab o1 rfl (zrt (h.le l1) hg fun b q G L lG hb oL hL qL=>zaB (zai ?_)))
 have l0G:=AHeap.le_trans l1 lG
 have hl1:=l1.1
 unfold F77.B6 F77.L2
 refine ⟨fun x4 x5 x6 G'=>slV b es.length=x4∧q=x5∧H.le G'∧∃ (i:Nat) (c:List Int),x6=i∧i≤es.length∧Own G' b 2 (LI c)∧c.length=es.length∧Q3 c,fun _ _ x6 _=>es.length-x6.toNat,⟨rfl,rfl,l0G,0,L,rfl,by omega,oL,hL,qL⟩,?_⟩
 rintro x4 x5 x6 G' ⟨rfl,rfl,lG',i,c,rfl,hi,oc,hc,qc⟩
 unfold F77.B5
 refine zba (zaa (fun hb'=>?_) fun hb'=>?_)
 ·have hlt:i<es.length:=by have:=of_decide_eq_true hb';omega
  have qi:=qc.get (i:=i)
  unfold F77.B4
  refine zan (by omega) (by omega) (zac (n:=c.getD i 0) oc (by rw [Int.toNat_natCast,List.getElem?_map,List.getElem?_eq_getElem (by omega),← zae (d:=0) (by omega)];rfl) (zan (by omega) (by omega) (zaO oc (by simp;omega) rfl fun G1 b1 p1=>?_)))
  rw [show IntKind.i64.wrap (c.getD i 0-1)=c.getD i 0-1 from zad (by omega) (by omega)] at p1
  unfold F77.B3
  rw [zad (by omega) (by omega)]
  rw [Int.toNat_natCast,← List.map_set] at p1
  refine ⟨⟨rfl,rfl,b1.le lG' (by omega),i+1,_,by omega,by omega,p1,by simpa using hc,qc.set ?_⟩,by simp;omega⟩
  split <;> omega
 ·unfold F77.B1
  exact k b q G' c lG' (by omega) oc hc qc
end Go.Proofs
namespace Go.Proofs
open Go.Abs

variable {B0 H G G':AHeap} {v u vE vv:Value} {E L:List Int} {es:List (Int × Int)} {K:Value→AHeap→Prop} {n:Int} {bl bs bm bC pE pD pL pG pS pM pR pW:Nat} {tE tD tL tG tS tM tR tW:TypeId} {M:Nat→Int} {S:Nat→Nat}

structure KS (S:List Nat) (H G:AHeap):Prop where
 len:H.length≤G.length
 old:∀ q o,q∉S→H[q]?=some (some o)→G[q]?=some (some o)
theorem KS.trans {S:List Nat} (h:KS S H G) (k:KS S G G'):KS S H G':=⟨Nat.le_trans h.len k.len,fun q o h1 ho=>k.old q o h1 (h.old q o h1 ho)⟩
theorem KS.but {S:List Nat} {b:Nat} (h:But b H G) (hb:b∈S):KS S H G:=⟨Nat.le_of_eq h.len.symm,fun q o hq ho=>by rw [h.same q (fun e=>hq (e▸hb))];exact ho⟩
theorem KS.le {S:List Nat} (h:KS S H G) (h0:B0.le H) (hb:∀ b∈S,B0.length≤b):B0.le G:=⟨Nat.le_trans h0.1 h.len,fun q o ho=>by
 have:=zaj ho
 exact h.old q o (fun hq=>by have:=hb q hq;omega) (h0.2 q o ho)⟩
theorem KS.own {S:List Nat} {q:Nat} {t:TypeId} {cs:List Value} (h:KS S H G) (o:Own H q t cs) (h1:q∉S):Own G q t cs:=h.old q _ h1 o
-- a row of values of a function
def mp (M:Nat→Int) (n:Nat):List Int:=(List.range n).map M
theorem zw6 (M:Nat→Int) (n:Nat):(mp M n).length=n:=by simp [mp]
theorem zAI (M:Nat→Int) (n a:Nat) (x:Int):(mp M n).set a x=mp (upd M a x) n:=by
 unfold mp
 refine List.ext_getElem (by simp) fun i h1 h2=>?_
 simp only [List.getElem_set,List.getElem_map,List.getElem_range,upd]
 by_cases e:a=i
 ·rw [if_pos e,if_pos e.symm]
 ·rw [if_neg e,if_neg fun h=>e h.symm]
theorem zxl (x:Int) (n:Nat):List.replicate n x=mp (fun _=>x) n:=by
 unfold mp;rw [List.map_const',List.length_range]
theorem zjG {b i N:Nat} {t:TypeId} (o:Own G b t (LI (mp M N))) (hi:i<N) {K:Int→Prop} (k:K (M i)):idxK (slV b N) (i:Int) 1 (fun b o=>ldI .i64 G b o K):=
 zan (by omega) (by omega) (zac o (by rw [Int.toNat_natCast,List.getElem?_map,List.getElem?_eq_getElem (by rw [zw6];exact hi)];unfold mp;simp) k)
theorem zmi {b i N:Nat} {t:TypeId} {x:Int} (o:Own G b t (LI (mp M N))) (hi:i<N) {K:AHeap→Prop} (k:∀ G',But b G G'→Own G' b t (LI (mp (upd M i x) N))→K G'):idxK (slV b N) (i:Int) 1 (fun b o=>stK G b o [.int .i64 x] K):=
 zan (by omega) (by omega) (zaO o (by rw [List.length_map,zw6];omega) rfl fun G' b' o'=>k G' b' (by rw [Int.toNat_natCast,← List.map_set,zAI] at o';exact o'))
abbrev iS (S:Nat→Nat):Nat→Int:=fun v=>(S v:Int)
abbrev ptV (p:Nat):Value:=.pointer (some ⟨p,0,none⟩)
abbrev doV (bC:Nat):Value:=.func (.func 143) ⟨[]⟩ ⟨[ptV bC]⟩
abbrev chV:Value:=.func (.func 145) ⟨[]⟩ ⟨[]⟩
abbrev ceV:Value:=.func (.func 146) ⟨[]⟩ ⟨[]⟩
abbrev flV (pE pD pL pG pS pM pR pW:Nat):Value:=.func (.func 189) ⟨[]⟩ ⟨[ptV pE,ptV pD,ptV pL,ptV pG,ptV pS,ptV pM,ptV pR,ptV pW]⟩
structure FlS (B0:AHeap) (n:Int) (m:Nat) (v vE vv:Value) (bl bs bm bC pE pD pL pG pS pM pR pW:Nat) (tE tD tL tG tS tM tR tW:TypeId) (G:AHeap):Prop where
 oE:Own G pE tE [vE]
 oD:Own G pD tD [doV bC]
 oL:Own G pL tL [slV bl m]
 oG:Own G pG tG [.int .i64 n,v]
 oS:Own G pS tS [slV bs n.toNat]
 oM:Own G pM tM [slV bm n.toNat]
 oR:Own G pR tR [vv,chV,ceV]
 oW:Own G pW tW [flV pE pD pL pG pS pM pR pW]
 base:B0.le G
structure FlD (B0:AHeap) (bl bs bm bC pE pD pL pG pS pM pR pW:Nat):Prop where
 hb:∀ b∈[bl,bs,bm,bC],B0.length≤b
 nd:bl≠bs∧bl≠bm∧bl≠bC∧bs≠bm∧bs≠bC∧bm≠bC
 ne:∀ p∈[pE,pD,pL,pG,pS,pM,pR,pW],p∉[bl,bs,bm,bC]
theorem FlS.ks {m:Nat} (hD:FlD B0 bl bs bm bC pE pD pL pG pS pM pR pW) (h:FlS B0 n m v vE vv bl bs bm bC pE pD pL pG pS pM pR pW tE tD tL tG tS tM tR tW G) (k:KS [bl,bs,bm,bC] G G') :
 FlS B0 n m v vE vv bl bs bm bC pE pD pL pG pS pM pR pW tE tD tL tG tS tM tR tW G':=
 ⟨k.own h.oE (hD.ne _ (by simp)),k.own h.oD (hD.ne _ (by simp)),k.own h.oL (hD.ne _ (by simp)),k.own h.oG (hD.ne _ (by simp)),k.own h.oS (hD.ne _ (by simp)),k.own h.oM (hD.ne _ (by simp)),k.own h.oR (hD.ne _ (by simp)),k.own h.oW (hD.ne _ (by simp)),k.le h.base hD.hb⟩
theorem zBk {a b:Nat} (ha:a<4) (hb:b<4):IntKind.i64.wrap ((BitVec.ofInt 64 (a:Int) ^^^ BitVec.ofInt 64 (b:Int)).toNat:Int)=((a ^^^ b:Nat):Int):=by
 have a4:a=0∨a=1∨a=2∨a=3:=by omega
 have b4:b=0∨b=1∨b=2∨b=3:=by omega
 rcases a4 with rfl|rfl|rfl|rfl <;> rcases b4 with rfl|rfl|rfl|rfl <;> decide +kernel
theorem zmy {a x:Nat} {q:Bool} (ha:a<4) (hx:x<4) (k:K (.int .i64 ((a ^^^ x:Nat):Int)) H):callV Tryz.prog T0 chV [.int .i64 (a:Int),.int .i64 (x:Int),.bool q] H K:=by
 refine zaJ ?_
 apply F145.ac
 unfold F145.B2 F145.B1
 rw [zBk ha hx]
 exact k
theorem znC {s:Nat} {m:Int} (k:K (.bool (cE s m)) H):callV Tryz.prog T0 ceV [.int .i64 (s:Int),.int .i64 m] H K:=by
 refine zaJ ?_
 apply F146.ac
 unfold F146.B2 F146.B1
 unfold cE at k
 refine zaa (fun hb=>?_) fun hb=>?_
 ·have h1:1<m:=of_decide_eq_true hb
  rw [decide_eq_true h1,Bool.true_or] at k
  exact k
 ·have h1:¬ 1<m:=of_decide_eq_false hb
  rw [decide_eq_false h1,Bool.false_or] at k
  have e:(((s:Int)==0)==(m==0))=(decide (s=0)==decide (m=0)):=by
   congr 1
   rw [Bool.eq_iff_iff,beq_iff_eq,decide_eq_true_iff];omega
  rw [e];exact k
theorem zAu {i:Int} {t:Nat} (hS:∀ w,S w<4) (ht:t<3) (w:Nat):sUp es i S t w<4:=by
 have h4:∀ a,S a ^^^ (t+1)<4:=fun a=>Nat.xor_lt_two_pow (n:=2) (hS a) (by omega)
 unfold sUp upd
 split
 ·exact h4 _
 ·split
  ·exact h4 _
  ·exact hS w
theorem ztc (hg:IsG n es) (hEd:Edges B0 v es) (hE:Ints B0 vE E) (hEr:∀ x∈E,0≤x∧x<es.length) (hv:Ints B0 vv [1,2,3]) (hD:FlD B0 bl bs bm bC pE pD pL pG pS pM pR pW) (h30:E.length≤30) :
 ∀ (r k:Nat) (H:AHeap) (K:Value→AHeap→Prop) (L:List Int) (S:Nat→Nat) (M:Nat→Int) (c:Nat),k+r=E.length→FlS B0 n es.length v vE vv bl bs bm bC pE pD pL pG pS pM pR pW tE tD tL tG tS tM tR tW H→
  Own H bl 2 (LI L)→L.length=es.length→Own H bs 2 (LI (mp (iS S) n.toNat))→(∀ w,S w<4)→Own H bm 2 (LI (mp M n.toNat))→(∀ w,3-(k:Int)≤M w∧M w≤3)→Own H bC 2 [.int .i64 (c:Int)]→c+3^r≤1000000000000000→
  (∀ G L',KS [bl,bs,bm,bC] H G→Own G bl 2 (LI L')→L'.length=es.length→Own G bs 2 (LI (mp (iS S) n.toNat))→Own G bm 2 (LI (mp M n.toNat))→Own G bC 2 [.int .i64 ((c+flN es (E.drop k) S M:Nat):Int)]→K (.bool false) G)→
  AC Tryz.prog T0 189 [.int .i64 (k:Int),ptV pE,ptV pD,ptV pL,ptV pG,ptV pS,ptV pM,ptV pR,ptV pW] H K:=by
 intro r
 have hnd:=hD.nd
 have ibl:bl∈[bl,bs,bm,bC]:=by simp
 have ibs:bs∈[bl,bs,bm,bC]:=by simp
 have ibm:bm∈[bl,bs,bm,bC]:=by simp
 have ibC:bC∈[bl,bs,bm,bC]:=by simp
 induction r with
 | zero=>
  intro k H K L S M c hk hS oL hL oS qS oM qM oC hc kk
  apply F189.ac
  unfold F189.B22 F189.B21
  refine zaq (zab hS.oE rfl ((hE.le hS.base).len (zay (by simp;omega) ?_)))
  unfold F189.B20
  refine zaq (zab hS.oD rfl (zaq (zab hS.oL rfl (zaJ ?_))))
  apply F143.ac
  unfold F143.B3 F143.B2
  refine zaq (zac oC rfl (zaq (zaO oC (by simp) rfl fun G1 b1 o1=>?_)))
  rw [zad (by omega) (by omega)] at o1
  unfold F143.B1
  refine zai (kk G1 L (.but b1 ibC) (b1.own oL hnd.2.2.1) hL (b1.own oS hnd.2.2.2.2.1) (b1.own oM hnd.2.2.2.2.2) ?_)
  rw [List.drop_of_length_le (by omega),flN]
  simpa using o1
 | succ r ih=>
  intro k H K L S M c hk hS oL hL oS qS oM qM oC hc kk
  have hlt:k<E.length:=by omega
  have n0:=hg.ed.lo;have n1:=hg.ed.hi
  apply F189.ac
  unfold F189.B22 F189.B21
  refine zaq (zab hS.oE rfl ((hE.le hS.base).len (zaz (by simp;omega) ?_)))
  unfold F189.B19
  refine zaq (zab hS.oE rfl ((hE.le hS.base).rd (by omega) (by omega) ?_))
  rw [Int.toNat_natCast]
  have hm:E.getD k 0∈E:=by rw [zae hlt];exact List.getElem_mem _
  have hir:=hEr _ hm
  obtain ⟨i,hi⟩:∃ i:Nat,E.getD k 0=i:=⟨(E.getD k 0).toNat,by omega⟩
  have hdrop:E.drop k=(i:Int)::E.drop (k+1):=by rw [List.drop_eq_getElem_cons hlt,← zae (d:=0) hlt,hi]
  rw [hi] at hir ⊢
  have hil:i<es.length:=by omega
  obtain ⟨a,b,he,hab,hbn⟩:=zbb hg hil
  have ea:e1N es (i:Int)=a:=by unfold e1N;rw [Int.toNat_natCast,he];simp
  have eb:e2N es (i:Int)=b:=by unfold e2N;rw [Int.toNat_natCast,he];simp
  have han:a<n.toNat:=by omega
  have hbn':b<n.toNat:=by omega
  unfold F189.B18
  obtain ⟨bb,oo,hkk,c1,c2⟩:=(hEd.le hS.base).idx (show (0:Int)≤i by omega) (by omega)
  simp only [Int.toNat_natCast] at c1 c2
  rw [he] at c1 c2
  refine zaq (zab hS.oG rfl (hkk _ (zap c1 (zaq (zab hS.oG rfl (hkk _ (zap c2 ?_)))))))
  unfold F189.B17
  refine zaq (zab hS.oS rfl (zjG oS han (zaq (zab hS.oS rfl (zjG oS hbn' ?_)))))
  have qa:=qM a;have qb:=qM b
  unfold F189.B16
  refine zaq (zab hS.oM rfl (zjG oM han (zmi oM han fun G1 b1 oM1=>?_)))
  rw [zad (by omega) (by omega)] at oM1
  have ks1:KS [bl,bs,bm,bC] H G1:=.but b1 ibm
  have hS1:=hS.ks hD ks1
  unfold F189.B15
  refine zaq (zab hS1.oM rfl (zjG oM1 hbn' (zmi oM1 hbn' fun G2 b2 oM2=>?_)))
  rw [zbU (by omega:b≠a),zad (by omega) (by omega)] at oM2
  have oM2:Own G2 bm 2 (LI (mp (mUp es (i:Int) M) n.toNat)):=by unfold mUp;rw [ea,eb];exact oM2
  have ks2:KS [bl,bs,bm,bC] H G2:=ks1.trans (.but b2 ibm)
  have hS2:=hS.ks hD ks2
  have mUa:mUp es (i:Int) M a=M a-1:=by unfold mUp;rw [ea,eb,zbU (by omega),zfd]
  have mUb:mUp es (i:Int) M b=M b-1:=by unfold mUp;rw [ea,eb,zfd]
  have mUr:∀ w,3-((k+1:Nat):Int)≤mUp es (i:Int) M w∧mUp es (i:Int) M w≤3:=fun w=>by
   have qw:=qM w
   unfold mUp;rw [ea,eb]
   unfold upd
   split
   ·omega
   ·split <;> omega
  have h3r:3^(r+1)=3*3^r:=by rw [Nat.pow_succ,Nat.mul_comm]
  unfold F189.B14 F189.B13
  refine zaq (zab hS2.oR rfl ((hv.le hS2.base).len ?_))
  unfold F189.L5
  refine ⟨fun x0 x3 x5 x6 x7 x8 x11 x12 x13 x14 x15 x16 x63 x64 x65 G=>(k:Int)=x0∧ptV pL=x3∧ptV pS=x5∧ptV pM=x6∧ptV pR=x7∧ptV pW=x8∧(i:Int)=x11∧(a:Int)=x12∧(b:Int)=x13∧(S a:Int)=x14∧(S b:Int)=x15∧false=x16∧vv=x63∧(3:Int)=x64∧∃ (t:Nat) (S':Nat→Nat) (L':List Int),x65=t∧t≤3∧KS [bl,bs,bm,bC] H G∧Own G bl 2 (LI L')∧L'.length=es.length∧Own G bs 2 (LI (mp (iS S') n.toNat))∧(∀ w,w≠a→w≠b→S' w=S w)∧Own G bm 2 (LI (mp (mUp es (i:Int) M) n.toNat))∧Own G bC 2 [.int .i64 ((c+flTo es (E.drop (k+1)) (i:Int) S M t:Nat):Int)],
   fun _ _ _ _ _ _ _ _ _ _ _ _ _ _ x65 _=>3-x65.toNat,⟨rfl,rfl,rfl,rfl,rfl,rfl,rfl,rfl,rfl,rfl,rfl,rfl,rfl,rfl,0,S,L,rfl,by omega,ks2,b2.own (b1.own oL hnd.2.1) hnd.2.1,hL,b2.own (b1.own oS hnd.2.2.2.1) hnd.2.2.2.1,fun _ _ _=>rfl,oM2,by simpa [flTo] using b2.own (b1.own oC (Ne.symm hnd.2.2.2.2.2)) (Ne.symm hnd.2.2.2.2.2)⟩,?_⟩
  rintro x0 x3 x5 x6 x7 x8 x11 x12 x13 x14 x15 x16 x63 x64 x65 G ⟨rfl,rfl,rfl,rfl,rfl,rfl,rfl,rfl,rfl,rfl,rfl,rfl,rfl,rfl,t,S',L',rfl,ht,ks,oL',hL',oS',hS',oM',oC'⟩
  have hSG:=hS.ks hD ks
  unfold F189.B12
  refine zaa (fun hb=>?_) fun hb=>?_
  ·have ht3:t<3:=by have:=of_decide_eq_true hb;omega
   have hval:([1,2,3]:List Int).getD ((t:Nat):Int).toNat 0=((t+1:Nat):Int):=by
    rw [Int.toNat_natCast]
    have:t=0∨t=1∨t=2:=by omega
    rcases this with rfl|rfl|rfl <;> rfl
   unfold F189.B11
   refine (hv.le hSG.base).rd (by omega) (by show (t:Int)<((3:Nat):Int);omega) ?_
   rw [hval]
   unfold F189.B10
   refine zaq (zab hSG.oS rfl (zaq (zab hSG.oS rfl (zaq (zab hSG.oR rfl (zaq (zab hSG.oR rfl (zmy (qS a) (by omega) (zag ⟨zaq (zab hSG.oS rfl ⟨rfl,rfl⟩),zaq (zab hSG.oS rfl ⟨rfl,rfl⟩),zab hSG.oR rfl ⟨rfl,rfl⟩,zmy (qS b) (by omega) (zag ⟨zaq (zab hSG.oS rfl ⟨rfl,rfl⟩),zaq (zab hSG.oS rfl ⟨rfl,rfl⟩),zmi oS' han fun G3 b3 o3=>?_⟩)⟩)))))))))
   have ks3:KS [bl,bs,bm,bC] H G3:=ks.trans (.but b3 ibs)
   have hS3:=hS.ks hD ks3
   refine ⟨zaq (zab hS3.oS rfl ⟨rfl,rfl⟩),zmi o3 hbn' fun G4 b4 o4=>?_⟩
   have ks4:KS [bl,bs,bm,bC] H G4:=ks3.trans (.but b4 ibs)
   have hS4:=hS.ks hD ks4
   have o4:Own G4 bs 2 (LI (mp (iS (sUp es (i:Int) S t)) n.toNat)):=by
    have e:upd (upd (iS S') a ((S a ^^^ (t+1):Nat):Int)) b ((S b ^^^ (t+1):Nat):Int)=iS (sUp es (i:Int) S t):=by
     funext w
     simp only [sUp,ea,eb,upd,iS]
     by_cases h1:w=b
     ·simp [h1]
     ·by_cases h2:w=a
      ·simp [h1,h2,Ne.symm (show b≠a by omega)]
      ·simp [h1,h2,hS' w h2 h1]
    rw [← e];exact o4
   have oM4:=b4.own (b3.own oM' (Ne.symm hnd.2.2.2.1)) (Ne.symm hnd.2.2.2.1)
   have oL4:=b4.own (b3.own oL' hnd.1) hnd.1
   have oC4:=b4.own (b3.own oC' (Ne.symm hnd.2.2.2.2.1)) (Ne.symm hnd.2.2.2.2.1)
   unfold F189.B9
   refine zaq (zab hS4.oL rfl (zan (by omega) (by omega) (zaO oL4 (by rw [List.length_map];omega) rfl fun G5 b5 o5=>?_)))
   rw [Int.toNat_natCast,← List.map_set] at o5
   have ks5:KS [bl,bs,bm,bC] H G5:=ks4.trans (.but b5 ibl)
   have hS5:=hS.ks hD ks5
   have oS5:=b5.own o4 (Ne.symm hnd.1)
   have oM5:=b5.own oM4 (Ne.symm hnd.2.1)
   have oC5:=b5.own oC4 (Ne.symm hnd.2.2.1)
   have hL5:(L'.set i ((t+1:Nat):Int)).length=es.length:=by rw [List.length_set];exact hL'
   have hsucc:=znU (es:=es) (E.drop (k+1)) (i:Int) S M t
   have hle:=zyU (es:=es) (E.drop (k+1)) (i:Int) S M t
   rw [List.length_drop,show E.length-(k+1)=r by omega] at hle
   have ht2:t*3^r≤2*3^r:=Nat.mul_le_mul_right _ (by omega)
   -- on to the next value
   have next:∀ G6 L6,KS [bl,bs,bm,bC] H G6→Own G6 bl 2 (LI L6)→L6.length=es.length→Own G6 bs 2 (LI (mp (iS (sUp es (i:Int) S t)) n.toNat))→Own G6 bm 2 (LI (mp (mUp es (i:Int) M) n.toNat))→Own G6 bC 2 [.int .i64 ((c+flTo es (E.drop (k+1)) (i:Int) S M (t+1):Nat):Int)]→
    F189.B6 K (fun x0 x3 x5 x6 x7 x8 x11 x12 x13 x14 x15 x16 x63 x64 x65 G=>((k:Int)=x0∧ptV pL=x3∧ptV pS=x5∧ptV pM=x6∧ptV pR=x7∧ptV pW=x8∧(i:Int)=x11∧(a:Int)=x12∧(b:Int)=x13∧(S a:Int)=x14∧(S b:Int)=x15∧false=x16∧vv=x63∧(3:Int)=x64∧∃ (t:Nat) (S':Nat→Nat) (L':List Int),x65=t∧t≤3∧KS [bl,bs,bm,bC] H G∧Own G bl 2 (LI L')∧L'.length=es.length∧Own G bs 2 (LI (mp (iS S') n.toNat))∧(∀ w,w≠a→w≠b→S' w=S w)∧Own G bm 2 (LI (mp (mUp es (i:Int) M) n.toNat))∧Own G bC 2 [.int .i64 ((c+flTo es (E.drop (k+1)) (i:Int) S M t:Nat):Int)])∧3-x65.toNat<3-((t:Nat):Int).toNat)
     (k:Int) (ptV pL) (ptV pS) (ptV pM) (ptV pR) (ptV pW) (i:Int) (a:Int) (b:Int) (S a:Int) (S b:Int) false vv 3 (t:Int) G6:=by
    intro G6 L6 ks6 oL6 hL6 oS6 oM6 oC6
    unfold F189.B6
    rw [zad (by omega) (by omega)]
    refine ⟨⟨rfl,rfl,rfl,rfl,rfl,rfl,rfl,rfl,rfl,rfl,rfl,rfl,rfl,rfl,t+1,_,L6,by omega,by omega,ks6,oL6,hL6,oS6,fun w h1 h2=>?_,oM6,oC6⟩,by omega⟩
    unfold sUp
    rw [ea,eb,zbU h2,zbU h1]
   have skip:okE es (i:Int) S M t=false→Own G5 bC 2 [.int .i64 ((c+flTo es (E.drop (k+1)) (i:Int) S M (t+1):Nat):Int)]:=fun h=>by
    rw [hsucc,h,if_neg (by simp),Nat.add_zero];exact oC5
   have hokE:okE es (i:Int) S M t=(cE (sUp es (i:Int) S t a) (mUp es (i:Int) M a)&&cE (sUp es (i:Int) S t b) (mUp es (i:Int) M b)):=by unfold okE;rw [ea,eb]
   unfold F189.B8
   refine zaq (zab hS5.oR rfl (zaq (zab hS5.oS rfl (zjG oS5 han (zaq (zab hS5.oM rfl (zjG oM5 han (znC (zai (zaa (fun hq1=>?_) fun hq1=>?_))))))))))
   rotate_left
   ·exact next G5 _ ks5 o5 hL5 oS5 oM5 (skip (by rw [hokE,hq1,Bool.false_and]))
   refine zaq (zab hS5.oR rfl (zaq (zab hS5.oS rfl (zjG oS5 hbn' (zaq (zab hS5.oM rfl (zjG oM5 hbn' (znC (zai (zaa (fun hq2=>?_) fun hq2=>?_))))))))))
   rotate_left
   ·exact next G5 _ ks5 o5 hL5 oS5 oM5 (skip (by rw [hokE,hq2,Bool.and_false]))
   refine zaq (zab hS5.oW rfl (zaJ ?_))
   rw [show IntKind.i64.wrap ((k:Int)+1)=((k+1:Nat):Int) from by rw [zad (by omega) (by omega)];omega]
   refine ih (k+1) G5 _ _ (sUp es (i:Int) S t) (mUp es (i:Int) M) (c+flTo es (E.drop (k+1)) (i:Int) S M t) (by omega) hS5 o5 hL5 oS5 (zAu qS ht3) oM5 mUr oC5 (by omega) fun G6 L6 ks6 oL6 hL6 oS6 oM6 oC6=>zai (zaz rfl ?_)
   refine next G6 L6 (ks5.trans ks6) oL6 hL6 oS6 oM6 ?_
   rw [hsucc,hokE,hq1,hq2,if_pos (show (true&&true)=true from rfl),← Nat.add_assoc]
   exact oC6
  ·have ht3:t=3:=by have:=of_decide_eq_false hb;omega
   subst ht3
   unfold F189.B4
   refine zaq (zab hSG.oS rfl (zaq (zab hSG.oS rfl (zmi oS' han fun G3 b3 o3=>?_))))
   have ks3:KS [bl,bs,bm,bC] H G3:=ks.trans (.but b3 ibs)
   have hS3:=hS.ks hD ks3
   refine ⟨zaq (zab hS3.oS rfl ⟨rfl,rfl⟩),zmi o3 hbn' fun G4 b4 o4=>?_⟩
   have ks4:KS [bl,bs,bm,bC] H G4:=ks3.trans (.but b4 ibs)
   have hS4:=hS.ks hD ks4
   have o4:Own G4 bs 2 (LI (mp (iS S) n.toNat)):=by
    have e:upd (upd (iS S') a (S a:Int)) b (S b:Int)=iS S:=by
     funext w
     simp only [upd,iS]
     by_cases h1:w=b
     ·simp [h1]
     ·by_cases h2:w=a
      ·simp [h1,h2,show ¬ a=b by omega]
      ·simp [h1,h2,hS' w h2 h1]
    rw [← e];exact o4
   have oM4:=b4.own (b3.own oM' (Ne.symm hnd.2.2.2.1)) (Ne.symm hnd.2.2.2.1)
   have oL4:=b4.own (b3.own oL' hnd.1) hnd.1
   have oC4:=b4.own (b3.own oC' (Ne.symm hnd.2.2.2.2.1)) (Ne.symm hnd.2.2.2.2.1)
   unfold F189.B3
   refine zaq (zab hS4.oM rfl (zjG oM4 han (zmi oM4 han fun G5 b5 o5=>?_)))
   rw [mUa,show IntKind.i64.wrap (M a-1+1)=M a from by rw [zad (by omega) (by omega)];omega] at o5
   have ks5:KS [bl,bs,bm,bC] H G5:=ks4.trans (.but b5 ibm)
   have hS5:=hS.ks hD ks5
   unfold F189.B2
   refine zaq (zab hS5.oM rfl (zjG o5 hbn' (zmi o5 hbn' fun G6 b6 o6=>?_)))
   rw [zbU (by omega:b≠a),mUb,show IntKind.i64.wrap (M b-1+1)=M b from by rw [zad (by omega) (by omega)];omega] at o6
   have o6:Own G6 bm 2 (LI (mp M n.toNat)):=by
    have e:upd (upd (mUp es (i:Int) M) a (M a)) b (M b)=M:=by
     funext w
     simp only [mUp,ea,eb,upd]
     by_cases h1:w=b
     ·simp [h1]
     ·by_cases h2:w=a
      ·simp [h1,h2,show ¬ a=b by omega]
      ·simp [h1,h2,show ¬ a=b by omega]
    rw [← e];exact o6
   unfold F189.B1
   refine kk G6 L' (ks5.trans (.but b6 ibm)) (b6.own (b5.own oL4 hnd.2.1) hnd.2.1) hL' (b6.own (b5.own o4 hnd.2.2.2.1) hnd.2.2.2.1) o6 ?_
   rw [hdrop,zp3]
   exact b6.own (b5.own oC4 (Ne.symm hnd.2.2.2.2.2)) (Ne.symm hnd.2.2.2.2.2)
end Go.Proofs
namespace Go.Proofs
open Go.Abs

variable {H:AHeap} {u:Value} {fs:List (Int × Int)} {K:Value→AHeap→Prop}

def selfs (D:List Int):Nat→Nat
 | 0=>0
 | n+1=>selfs D n+if D.getD n 0=(n:Int) then 1 else 0
theorem zhT (D:List Int):∀ n,selfs D n≤n
 | 0=>Nat.le_refl _
 | n+1=>by have:=zhT D n;unfold selfs;split <;> omega
theorem zjc {n:Int} (h:Edges H u fs) (hl:fs.length≤1048576) (h0:0<n) (h1:n≤20) (hf:∀ e∈fs,0≤e.1∧e.1<n∧0≤e.2∧e.2<n)
 (k:∀ D G,H.le G→D.length=n.toNat→Leads n.toNat fs D→K (.int .i64 (selfs D n.toNat)) G) :
 AC Tryz.prog T0 157 [.int .i64 n,u] H K:=by
 apply F157.ac
 unfold F157.B9 F157.B8
 refine zed h hl h0 h1 hf fun b0 D G1 l1 o1 _ hD=>?_
 have hlen:D.length=n.toNat:=hD.led.1
 unfold F157.B7 F157.L2
 refine ⟨fun x0 x5 x6 x7 G=>x0=n∧x5=.slice (some ⟨b0,0,none⟩) n.toNat (n.toNat+1)∧G1=G∧∃ i:Nat,x7=i∧i≤n.toNat∧x6=selfs D i,fun _ _ _ x7 _=>n.toNat-x7.toNat,⟨rfl,rfl,rfl,0,rfl,by omega,rfl⟩,?_⟩
 rintro x0 x5 x6 x7 G ⟨rfl,rfl,rfl,i,rfl,hi,rfl⟩
 unfold F157.B6
 have hs:=zhT D i
 by_cases hlt:i<x0.toNat
 ·refine zay (by simp;omega) ?_
  unfold F157.B5
  have hg:(LI D)[(i:Int).toNat]?=some (.int .i64 (D.getD i 0)):=by
   simp only [Int.toNat_natCast,LI,List.getElem?_map,List.getD,List.getElem?_eq_getElem (show i<D.length by omega)];rfl
  refine zan (by omega) (by omega) (zac o1 hg ?_)
  by_cases he:D.getD i 0=(i:Int)
  ·refine zay (by simpa using he) ?_
   unfold F157.B4 F157.B3
   rw [zad (by omega) (by omega),zad (by omega) (by omega)]
   refine ⟨⟨rfl,rfl,rfl,i+1,by omega,by omega,?_⟩,by show x0.toNat-(((i:Nat):Int)+1).toNat<x0.toNat-((i:Nat):Int).toNat;omega⟩
   show ((selfs D i:Nat):Int)+1=((selfs D i+(if D.getD i 0=(i:Int) then 1 else 0):Nat):Int);rw [if_pos he];omega
  ·refine zaz (by simpa using he) ?_
   unfold F157.B3
   rw [zad (by omega) (by omega)]
   refine ⟨⟨rfl,rfl,rfl,i+1,by omega,by omega,?_⟩,by show x0.toNat-(((i:Nat):Int)+1).toNat<x0.toNat-((i:Nat):Int).toNat;omega⟩
   show ((selfs D i:Nat):Int)=((selfs D i+(if D.getD i 0=(i:Int) then 1 else 0):Nat):Int);rw [if_neg he];omega
 ·refine zaz (by simp;omega) ?_
  unfold F157.B1
  obtain rfl:i=x0.toNat:=by omega
  exact k D _ l1 hlen hD
end Go.Proofs
namespace Go.Proofs
open Go.Abs

variable {H G:AHeap} {v u f:Value} {l m c D:List Int} {es fs:List (Int × Int)} {K:Value→AHeap→Prop}

def farB (D:List Int) (w:Nat):Bool:=decide (w<D.length∧0≤D.getD w 0)
theorem zeP {w:Nat} (h:farB D w=true):w<D.length:=(of_decide_eq_true h).1
theorem zbH {w:Nat} (h:w<D.length):farB D w=true↔0≤D.getD w 0:=by unfold farB;rw [decide_eq_true_iff];exact ⟨fun h=>h.2,fun h'=>⟨h,h'⟩⟩
theorem zgd {y:Nat} {d:Int} (h:y<D.length) (hd:0≤d):farB (D.set y d)=insB (farB D) y:=by
 funext j
 unfold farB insB
 rw [List.length_set]
 by_cases e:y=j
 ·subst e;rw [zao h];simp [h,hd]
 ·rw [zam e];simp [e]
structure FarOk (n:Nat) (D:List Int):Prop where
 len:D.length=n
 rng:∀ w,w<n→-1≤D.getD w 0∧D.getD w 0+unseen (farB D) n≤21
theorem FarOk.set {n x y:Nat} (h:FarOk n D) (hx:farB D x=true) (hy:y<n) (hf:farB D y=false):FarOk n (D.set y (D.getD x 0+1)):=by
 have hl:=h.len
 have hxl:=zeP hx
 have hx0:=(zbH hxl).1 hx
 have hu:=za5 (S:=farB D) hy hf
 refine ⟨by simp [hl],fun w hw=>?_⟩
 rw [zgd (by omega) (by omega)]
 by_cases e:y=w
 ·subst e
  rw [zao (by omega)]
  have:=h.rng x (by omega)
  omega
 ·rw [zam e]
  have:=h.rng w hw
  omega
structure InV (adj:Nat→Nat→Prop) (a x n M:Nat) (D':Nat→Prop) (S:Nat→Bool) (R:List Nat):Prop where
 ex:Ex adj a S (x::R)
 bnd:∀ y,S y=true→y<n
 mu:2*unseen S n+(R.length+1)≤M
 past:∀ j,D' j→S j=true
section
variable {adj:Nat→Nat→Prop} {a x n M:Nat} {D' D2:Nat→Prop} {S:Nat→Bool} {R:List Nat}
theorem InV.more (h:InV adj a x n M D' S R) (hd:∀ j,D2 j→D' j∨S j=true):InV adj a x n M D2 S R:=
 ⟨h.ex,h.bnd,h.mu,fun j hj=>(hd j hj).elim (h.past j) id⟩
theorem InV.push {y:Nat} (h:InV adj a x n M D' S R) (hy:adj x y) (hyn:y<n) (hn:S y=false) (hd:∀ j,D2 j→D' j∨j=y):InV adj a x n M D2 (insB S y) (R++[y]):=by
 have hx:S x=true:=h.ex.q x (by simp)
 refine ⟨h.ex.push hx hy,fun z hz=>?_,?_,fun j hj=>?_⟩
 ·by_cases e':z=y
  ·rw [e'];exact hyn
  ·exact h.bnd z (zeY hz e')
 ·have:=za5 (n:=n) hyn hn
  have:=h.mu
  simp;omega
 ·rcases hd j hj with hj|rfl
  ·exact zcC (h.past j hj)
  ·exact zbM _ _
theorem InV.pop (h:InV adj a x n M D' S R) (hd:∀ j,adj x j→D' j):Ex adj a S R∧2*unseen S n+R.length<M:=
 ⟨h.ex.pop fun y hy=>h.past y (hd y hy),by have:=h.mu;omega⟩
end
def PastV (es:List (Int × Int)) (p:Nat→Bool) (x t:Nat) (j:Nat):Prop:=∃ t',t'<t∧t'<(atL es x).length∧p ((atL es x).getD t' 0).toNat=false∧(j:Int)=(es.getD ((atL es x).getD t' 0).toNat (0,0)).1+(es.getD ((atL es x).getD t' 0).toNat (0,0)).2-x
theorem PastV.step {p:Nat→Bool} {x t j i:Nat} (h:PastV es p x (t+1) j) (hi:(atL es x).getD t 0=i):PastV es p x t j∨(p i=false∧(j:Int)=(es.getD i (0,0)).1+(es.getD i (0,0)).2-x):=by
 obtain ⟨t',h1,h2,h3,h4⟩:=h
 by_cases e:t'=t
 ·subst e;rw [hi,Int.toNat_natCast] at h3 h4;exact .inr ⟨h3,h4⟩
 ·exact .inl ⟨t',by omega,h2,h3,h4⟩
theorem PastV.fin {p:Nat→Bool} {x j:Nat} (h:vAdj (restL es p) x j):PastV es p x (atL es x).length j:=by
 have:∃ i,i<es.length∧p i=false∧on (es.getD i (0,0)) x=true∧(j:Int)=(es.getD i (0,0)).1+(es.getD i (0,0)).2-x:=by
  rcases h with h|h
  ·obtain ⟨i,h1,h2,h3⟩:=zcT.1 h
   exact ⟨i,h1,h2,by rw [← h3];unfold on;simp,by rw [← h3];simp only;omega⟩
  ·obtain ⟨i,h1,h2,h3⟩:=zcT.1 h
   exact ⟨i,h1,h2,by rw [← h3];unfold on;simp,by rw [← h3];simp only;omega⟩
 obtain ⟨i,h1,h2,h3,h4⟩:=this
 have hm:(i:Int)∈atL es x:=zaN.2 ⟨i,rfl,h1,h3⟩
 obtain ⟨t,ht,hte⟩:=List.getElem_of_mem hm
 have e:(atL es x).getD t 0=i:=by rw [zae ht,hte]
 exact ⟨t,ht,ht,by rw [e];exact h2,by rw [e];exact h4⟩
theorem zAd {p:Nat→Bool} {x y i:Nat} (h1:i<es.length) (h2:p i=false) (h3:on (es.getD i (0,0)) x=true) (h4:(y:Int)=(es.getD i (0,0)).1+(es.getD i (0,0)).2-x):vAdj (restL es p) x y:=by
 unfold on at h3
 simp only [Bool.or_eq_true,beq_iff_eq] at h3
 rcases h3 with h|h
 ·refine .inl (zcT.2 ⟨i,h1,h2,?_⟩)
  rw [← h,show (y:Int)=(es.getD i (0,0)).2 by omega]
 ·refine .inr (zcT.2 ⟨i,h1,h2,?_⟩)
  rw [← h,show (y:Int)=(es.getD i (0,0)).1 by omega]
def FarQ (n m0 b0:Nat) (X:(Nat→Bool)→List Nat→Prop) (x7 q:Value) (G:AHeap):Prop:=x7=.slice (some ⟨b0,0,none⟩) n (n+1)∧∃ (D:List Int) (Q:List Nat),Own G b0 2 (LI D)∧FarOk n D∧X (farB D) Q∧Sl m0 G q 2 1 (LI (NI Q))
def rowFar (G:AHeap) (b:Nat):Nat→Bool:=
 match G[b]? with
 | some (some (.row cs _ _))=>farB (cs.map fun|.int _ x=>x|_=>0)
 | _=>fun _=>false
theorem zkk {b:Nat} {t:TypeId} (h:Own G b t (LI D)):rowFar G b=farB D:=by
 unfold rowFar;rw [h];simp only [LI,List.map_map]
 congr 1
 conv=>rhs;rw [← List.map_id D]
 rfl
theorem zmz {n:Int} {a s:Nat} (h:Edges H v es) (hg:IsG n es) (hs:s<2^64) (ha:a<n.toNat)
 (k:∀ b0 D G,H.le G→H.length≤b0→Own G b0 2 (LI D)→D.length=n.toNat→(∀ w,w<n.toNat→(0≤D.getD w 0↔Rch (vAdj (restL es fun j=>s.testBit j)) a w))→K (.slice (some ⟨b0,0,none⟩) n.toNat (n.toNat+1)) G) :
 AC Tryz.prog T0 75 [.agg ⟨[.int .i64 n,v]⟩,.int .i64 (a:Nat),.int .u64 (s:Nat)] H K:=by
 have n0:=hg.ed.lo;have n1:=hg.ed.hi
 have h30:es.length≤30:=by have:=hg.ed.len;omega
 apply F75.ac
 unfold F75.B17
 refine zaf (zak (zah h)) fun H1 l1 _ o1=>?_
 unfold F75.B16
 refine zaf rfl fun H2 l2 _ o2=>zac (o1.le l2) rfl (zbE (t:=-1) (by simpa using o2) (by omega) (by omega) fun H3 l3 o3=>?_)
 have l13:=AHeap.le_trans l2 l3
 obtain ⟨b0,hb0⟩:∃ b0,b0=H2.length:=⟨_,rfl⟩
 have hb0l:H1.length≤b0:=by rw [hb0];exact l2.1
 rw [← hb0] at o3
 rw [← hb0]
 clear o2 hb0
 unfold F75.B15
 refine zan (by omega) (by omega) (zaO o3 (by simp;omega) rfl fun H4 b4 o4=>?_)
 rw [Int.toNat_natCast,show LI (List.replicate n.toNat (-1))=(List.replicate n.toNat (-1)).map (Value.int .i64) from rfl,← List.map_set] at o4
 have o4:Own H4 b0 2 (LI ((List.replicate n.toNat (-1)).set a 0)):=o4
 have hb03:b0<H4.length:=o4.lt
 have l14:H1.le H4:=b4.le l13 hb0l
 unfold F75.B14
 refine zaf rfl fun H5 l5 _ o5=>?_
 obtain ⟨p,hp⟩:∃ p:Nat→Bool,p=fun j=>s.testBit j:=⟨_,rfl⟩
 rw [← hp] at k
 have D0:∀ w,w<n.toNat→((List.replicate n.toNat (-1)).set a (0:Int)).getD w 0=if a=w then 0 else -1:=by
  intro w hw
  by_cases e:a=w
  ·subst e;rw [if_pos rfl];exact zao (by simp;omega)
  ·rw [if_neg e,zam e];simp [List.getD,hw]
 have F0:∀ w,farB ((List.replicate n.toNat (-1)).set a (0:Int)) w=true↔w=a:=by
  intro w
  by_cases hw:w<n.toNat
  ·rw [zbH (by simp;omega),D0 w hw]
   by_cases e:a=w
   ·subst e;simp
   ·rw [if_neg e];exact ⟨fun h=>absurd h (by decide),fun h=>absurd h.symm e⟩
  ·exact ⟨fun h=>absurd (zeP h) (by simp;omega),fun h=>by omega⟩
 unfold F75.L2
 refine ⟨fun x2 x3 x7 x8 G=>((s:Nat):Int)=x2∧H.length=x3∧H1.le G∧H4.length≤G.length∧FarQ n.toNat H4.length b0 (fun S Q=>Ex (vAdj (restL es p)) a S Q∧(∀ y,S y=true→y<n.toNat)∧2*unseen S n.toNat+Q.length≤41) x7 x8 G,
  fun _ _ _ x8 G=>2*unseen (rowFar G b0) n.toNat+lenV x8,⟨rfl,rfl,AHeap.le_trans l14 l5,l5.1,rfl,_,[a],o4.le l5,⟨by simp,fun w hw=>?_⟩,⟨.init F0,fun y hy=>?_,?_⟩,Fresh.sl (.inr ⟨_,1,Nat.le_refl _,rfl,o5,rfl⟩)⟩,?_⟩
 ·rw [D0 w hw]
  have:=zbK (farB ((List.replicate n.toNat (-1)).set a (0:Int))) n.toNat
  split <;> omega
 ·rw [(F0 y).1 hy];exact ha
 ·have:=zbK (farB ((List.replicate n.toNat (-1)).set a (0:Int))) n.toNat
  simp;omega
 clear o5 l5 D0 F0 o4 o3 b4
 rintro x2 x3 x7 x8 G ⟨rfl,rfl,hG,hM4,rfl,D,Q,oD,hD,⟨hE,hB,hU⟩,hQ⟩
 have oG:=o1.le hG
 unfold F75.B13
 refine hQ.len (by decide) (n:=Q.length) (by simp) (zaa (fun hb=>?_) fun hb=>?_)
 ·have hpos:0<Q.length:=by have:=of_decide_eq_true hb;omega
  cases Q with
  | nil=>simp at hpos
  | cons x Q=>
  have hxl:x<n.toNat:=hB x (hE.q x (by simp))
  have hmu:2*unseen (rowFar G b0) n.toNat+lenV x8=2*unseen (farB D) n.toNat+(Q.length+1):=by
   rw [zb0 hQ,zkk oD];simp
  have hU:2*unseen (farB D) n.toNat+(Q.length+1)≤41:=hU
  obtain ⟨M,hM⟩:∃ M,M=2*unseen (farB D) n.toNat+(Q.length+1):=⟨_,rfl⟩
  unfold F75.B12
  refine zac oG rfl (zab oG rfl (hQ.ints.rd (by decide) (by simp) ?_))
  rw [show (NI (x::Q)).getD (0:Int).toNat 0=(x:Int) from rfl]
  have lG:=AHeap.le_trans l1 hG
  refine zjC (h.le lG) (by omega) fun w G2 hG2 hF=>?_
  have h3:=hg.three (v:=(x:Int)) (by omega) (by omega)
  refine hF.len (by decide) (n:=3) (by rw [List.length_map,h3]) ?_
  have lG2:=AHeap.le_trans hG hG2
  have hbG:b0<G.length:=oD.lt
  unfold F75.L4
  refine ⟨fun x2 x3 x7 x8 x30 x31 x32 G=>((s:Nat):Int)=x2∧H.length=x3∧w=x30∧3=x31∧H1.le G∧H4.length≤G.length∧Sl H4.length G w 2 1 (LI (atL es x))∧(∀ b,bk w=some b→bk x8≠some b)∧
   ∃ t:Nat,x32=t∧t≤3∧FarQ n.toNat H4.length b0 (fun S Q'=>∃ R,Q'=x::R∧InV (vAdj (restL es p)) a x n.toNat M (PastV es p x t) S R) x7 x8 G,
   fun _ _ _ _ _ _ x32 _=>3-x32.toNat,⟨rfl,rfl,rfl,rfl,lG2,Nat.le_trans hM4 hG2.1,hF.less hM4,(fun b hb hb'=>by have:=(hF.lt hb).1;have:=(hQ.lt hb').2;omega),0,rfl,by omega,rfl,D,x::Q,oD.le hG2,hD,⟨Q,rfl,hE,hB,by omega,fun j ⟨t',h,_⟩=>absurd h (by omega)⟩,hQ.le hG2⟩,?_⟩
  clear hQ hE hB hF hG2 lG2 oG lG hG hM4 hbG oD hD
  rintro x2 x3 x7 x8' x30 x31 x32 G3 ⟨rfl,rfl,rfl,rfl,hG,hM4,hW,hA,t,rfl,ht,rfl,D3,_,oD,hD,⟨R,rfl,hX⟩,hQ⟩
  have lG:=AHeap.le_trans l1 hG
  have oG:=o1.le hG
  unfold F75.B11
  refine zaa (fun hb=>?_) fun hb=>?_
  ·have ht3:t<3:=by have:=of_decide_eq_true hb;omega
   obtain ⟨i,hi1,hi2,hi3⟩:=zc4 (es:=es) (w:=(x:Int)) (t:=t) (by omega)
   obtain ⟨d1,d2,d3,d4,d5⟩:=hg.ed.ends es[i] (List.getElem_mem hi2)
   rw [← zae (d:=(0,0)) hi2] at d1 d2 d3 d4 d5
   obtain ⟨y,hy⟩:∃ y:Nat,(es.getD i (0,0)).1+(es.getD i (0,0)).2-(x:Int)=y:=⟨((es.getD i (0,0)).1+(es.getD i (0,0)).2-(x:Int)).toNat,by rcases zcR hi3 with e|e <;> omega⟩
   have hyn:y<n.toNat:=by rcases zcR hi3 with e|e <;> omega
   have hstep:∀ j,PastV es p x (t+1) j→PastV es p x t j∨(p i=false∧j=y):=fun j hj=>(PastV.step hj hi1).imp id fun ⟨h1,h2⟩=>⟨h1,by omega⟩
   unfold F75.B10
   refine hW.ints.rd (by omega) (by omega) ?_
   simp only [Int.toNat_natCast,hi1]
   unfold F75.B9
   obtain ⟨bb,oo,hk,c1,c2⟩:=(h.le lG).idx (show (0:Int)≤i by omega) (by omega)
   simp only [Int.toNat_natCast] at c1 c2
   refine zab oG rfl (hk _ (zap c1 (zap c2 (hQ.ints.rd (by decide) (by simp) ?_))))
   rw [show (NI (x::R)).getD (0:Int).toNat 0=(x:Int) from rfl]
   refine zkM (e:=es.getD i (0,0)) (by omega) (by omega) (by omega) fun G4 l4=>zag ?_
   rw [hy]
   have hG:=AHeap.le_trans hG l4
   have hM4:=Nat.le_trans hM4 l4.1
   have hW:=hW.le l4
   have oD:=oD.le l4
   have hQ:=hQ.le l4
   have oi:=zau (c:=n.toNat+1) oD
   rw [hD.len] at oi
   have hyl:y<D3.length:=by rw [hD.len];exact hyn
   have hxl3:x<D3.length:=by rw [hD.len];exact hxl
   have pi':p i=s.testBit i:=by rw [hp]
   unfold F75.B8
   refine oi.rd (by omega) (by omega) (zaa (fun hb=>?_) fun hb=>?_)
   ·have hn:farB D3 y=false:=by
     have:=of_decide_eq_true hb
     rw [Int.toNat_natCast] at this
     cases hf:farB D3 y with
     | false=>rfl
     | true=>have:=(zbH hyl).1 hf;omega
    refine zcv hs (by omega) (zai ?_)
    rw [Int.toNat_natCast,← pi']
    refine zaa (fun hb=>?_) fun hb=>?_
    ·have hpi:p i=false:=by simpa using hb
     have hx3:farB D3 x=true:=hX.ex.q x (by simp)
     have hx0:=(zbH hxl3).1 hx3
     have hr:=(hD.rng x hxl).2
     unfold F75.B7
     refine hQ.ints.rd (by decide) (by simp) ?_
     rw [show (NI (x::R)).getD (0:Int).toNat 0=(x:Int) from rfl]
     refine oi.rd (by omega) (by omega) (zan (by omega) (by omega) (zaO oD (by simp;omega) rfl fun G5 b5 o5=>?_))
     rw [Int.toNat_natCast,Int.toNat_natCast,zad (by omega) (by omega)] at o5
     have o5:Own G5 b0 2 (LI (D3.set y (D3.getD x 0+1))):=by rw [← List.map_set] at o5;exact o5
     have hD5:=hD.set hx3 hyn hn
     have hG5:=b5.le hG hb0l
     have hQ5:=hQ.but b5 hb03
     have hW5:=hW.but b5 hb03
     unfold F75.B6
     refine hQ5.pushN zbl (by decide) (by rw [b5.len];exact hM4) (n:=1) (ys:=[.int .i64 y]) rfl rfl (by have:=hX.mu;simp;omega) (by simp) fun v' G6 k6 ot6 nb6 f6=>?_
     unfold F75.B5
     rw [zad (by omega) (by omega)]
     refine ⟨⟨rfl,rfl,rfl,rfl,k6.le hG5 (by omega),by have:=k6.len;have:=b5.len;omega,hW5.oth ot6 hA,(fun b hb hb'=>by have:=(hW5.lt hb).2;have:=nb6 b hb';omega),t+1,by omega,by omega,rfl,_,x::(R++[y]),k6.own o5 hb03,hD5,⟨R++[y],rfl,?_⟩,by simpa using f6.sl⟩,by simp;omega⟩
     rw [zgd hyl (by omega)]
     exact hX.push (zAd hi2 hpi hi3 hy.symm) hyn hn fun j hj=>(hstep j hj).imp id fun h=>h.2
    ·have hpi:p i=true:=by simpa using hb
     unfold F75.B5
     rw [zad (by omega) (by omega)]
     refine ⟨⟨rfl,rfl,rfl,rfl,hG,hM4,hW,hA,t+1,by omega,by omega,rfl,D3,x::R,oD,hD,⟨R,rfl,hX.more fun j hj=>?_⟩,hQ⟩,by simp;omega⟩
     rcases hstep j hj with h|⟨h,rfl⟩
     ·exact .inl h
     ·rw [hpi] at h;cases h
   ·have hn:farB D3 y=true:=by
     have:=of_decide_eq_false hb
     rw [Int.toNat_natCast] at this
     exact (zbH hyl).2 (by omega)
    unfold F75.B5
    rw [zad (by omega) (by omega)]
    refine ⟨⟨rfl,rfl,rfl,rfl,hG,hM4,hW,hA,t+1,by omega,by omega,rfl,D3,x::R,oD,hD,⟨R,rfl,hX.more fun j hj=>?_⟩,hQ⟩,by simp;omega⟩
    rcases hstep j hj with h|⟨h,rfl⟩
    ·exact .inl h
    ·exact .inr hn
  ·have ht3:t=3:=by have:=of_decide_eq_false hb;omega
   subst ht3
   unfold F75.B3
   obtain ⟨hE,hlt⟩:=hX.pop fun j hj=>by rw [← h3];exact PastV.fin hj
   refine hQ.drop (i:=1) (n:=R.length+1) (by simp) (by decide) (by omega) (by omega) fun v' hv'=>?_
   have hv':Sl H4.length G3 v' 2 1 (LI (NI R)):=by simpa using hv'
   refine ⟨⟨rfl,rfl,hG,hM4,rfl,D3,R,oD,hD,⟨hE,hX.bnd,by omega⟩,hv'⟩,?_⟩
   show 2*unseen (rowFar G3 b0) n.toNat+lenV v'<2*unseen (rowFar G b0) n.toNat+lenV x8
   rw [hmu,zb0 hv',zkk oD]
   simpa [hM] using hlt
 ·have hz:Q=[]:=by
   have:=of_decide_eq_false hb
   cases Q with
   | nil=>rfl
   | cons x Q=>simp at this
  subst hz
  unfold F75.B1
  refine k b0 D G (AHeap.le_trans l1 hG) (by have:=l1.1;omega) oD hD.len fun w hw=>?_
  rw [← zbH (by have:=hD.len;omega)]
  exact hE.fin w
end Go.Proofs
namespace Go.Proofs
open Go.Abs

variable {H G:AHeap} {v u f:Value} {l m c D:List Int} {es fs:List (Int × Int)} {K:Value→AHeap→Prop}

theorem zc8 {n:Int} {s:Nat} (h:Edges H v es) (hg:IsG n es) (hs:s<2^64)
 (k:∀ v' G,H.le G→RowsF (fun b=>H.length≤b) G.length G v' (sidesL (restL es fun j=>s.testBit j) n.toNat)→K v' G) :
 AC Tryz.prog T0 155 [.agg ⟨[.int .i64 n,v]⟩,.int .u64 (s:Nat)] H K:=by
 have n0:=hg.ed.lo;have n1:=hg.ed.hi
 apply F155.ac
 unfold F155.B20
 refine zaf (zak (zah h)) fun H1 l1 _ o1=>?_
 unfold F155.B19 F155.B18 F155.B17
 refine zac o1 rfl ?_
 obtain ⟨fs,hfs⟩:∃ fs,fs=restL es fun j=>s.testBit j:=⟨_,rfl⟩
 rw [← hfs] at k
 unfold F155.L2
 refine ⟨fun x1 x2 x5 x6 x12 x13 G=>((s:Nat):Int)=x1∧H.length=x2∧n=x12∧H1.le G∧∃ i:Nat,x13=i∧i≤n.toNat∧RowsF (fun b=>H1.length≤b) G.length G x5 (sidesTo fs n.toNat i)∧
  ∃ z:Nat,x6=((z:Nat):Int)∧z<2^64∧∀ w,z.testBit w=true↔w<n.toNat∧∃ a,a<i∧Rch (vAdj fs) a w,
  fun _ _ _ _ _ x13 _=>n.toNat-x13.toNat,⟨rfl,rfl,rfl,AHeap.le_refl _,0,rfl,by omega,.nil,0,rfl,by decide,fun w=>?_⟩,?_⟩
 ·simp
 rintro x1 x2 x5 x6 x12 x13 G ⟨rfl,rfl,rfl,hG,i,rfl,hi,hR,z,rfl,hz,hzb⟩
 have lG:=AHeap.le_trans l1 hG
 have oG:=o1.le hG
 unfold F155.B16
 refine zaa (fun hb=>?_) fun hb=>?_
 ·have hin:i<n.toNat:=by have:=of_decide_eq_true hb;omega
  have hzi:z.testBit i=!vLeadB fs i:=by
   rw [Bool.eq_iff_iff,hzb,Bool.not_eq_true',← Bool.not_eq_true,za0]
   constructor
   ·rintro ⟨_,a,h1,h2⟩ h;exact h a h1 h2
   ·intro h
    refine ⟨hin,Classical.byContradiction fun h'=>h fun b hb hr=>h' ⟨b,hb,hr⟩⟩
  unfold F155.B15 F155.B14
  refine zcv hz (by omega) (zai ?_)
  rw [Int.toNat_natCast,hzi]
  refine zaa (fun hb=>?_) fun hb=>?_
  ·have hl:vLeadB fs i=false:=by simpa using hb
   unfold F155.B3
   rw [zad (by omega) (by omega)]
   refine ⟨⟨rfl,rfl,rfl,hG,i+1,by omega,by omega,?_,z,rfl,hz,fun w=>?_⟩,by simp;omega⟩
   ·rw [zdy,hl];simpa using hR
   ·rw [hzb]
    refine and_congr_right fun _=>⟨fun ⟨a,h1,h2⟩=>⟨a,by omega,h2⟩,fun ⟨a,h1,h2⟩=>?_⟩
    by_cases e:a=i
    ·subst e
     have:=(hzb a).1 (by rw [hzi,hl];rfl)
     obtain ⟨_,b,g1,g2⟩:=this
     exact ⟨b,g1,g2.trans h2⟩
    ·exact ⟨a,by omega,h2⟩
  ·have hl:vLeadB fs i=true:=by simpa using hb
   unfold F155.B13 F155.B12
   refine zac oG rfl (zab oG rfl (zmz (h.le lG) hg hs hin fun b0 D G2 l2 hb0 oD hD hfar=>?_))
   rw [← hfs] at hfar
   refine zba ?_
   have hG2:=AHeap.le_trans hG l2
   have hb2:=oD.lt
   have hG2':=hG2.1
   unfold F155.L5
   refine ⟨fun x1 x2 x5' x6 x8 x12 x13 x22 x23 x24 G'=>((s:Nat):Int)=x1∧H.length=x2∧x5=x5'∧n=x12∧((i:Nat):Int)=x13∧.slice (some ⟨b0,0,none⟩) n.toNat (n.toNat+1)=x22∧(n.toNat:Int)=x23∧H1.le G'∧G2.length≤G'.length∧Own G' b0 2 (LI D)∧RowsF (fun b=>H1.length≤b) G2.length G' x5 (sidesTo fs n.toNat i)∧
    ∃ t:Nat,x24=t∧t≤n.toNat∧Fresh G2.length G' x8 2 1 (LI (filtB (rchB (vAdj fs) i) t))∧∃ z':Nat,x6=((z':Nat):Int)∧z'<2^64∧∀ w,z'.testBit w=true↔z.testBit w=true∨w<t∧Rch (vAdj fs) i w,
    fun _ _ _ _ _ _ _ _ _ x24 _=>n.toNat-x24.toNat,⟨rfl,rfl,rfl,rfl,rfl,rfl,rfl,hG2,Nat.le_refl _,oD,(hR.le l2).mono (fun _ h=>h) l2.1,0,rfl,by omega,.inl ⟨rfl,.inl rfl⟩,z,rfl,hz,fun w=>by simp⟩,?_⟩
   clear oD hR lG oG hG2 hG
   rintro x1 x2 x5' x6 x8 x12 x13 x22 x23 x24 G3 ⟨rfl,rfl,rfl,rfl,rfl,rfl,rfl,hG,hGl,oD,hR,t,rfl,ht,hF,z',rfl,hz',hzb'⟩
   unfold F155.B11
   refine zaa (fun hb=>?_) fun hb=>?_
   ·have htn:t<n.toNat:=by have:=of_decide_eq_true hb;omega
    have hft:=hfar t htn
    have hfl:=zas (rchB (vAdj fs) i) t
    unfold F155.B10
    have oi:=zau (c:=n.toNat+1) oD
    rw [hD] at oi
    refine oi.rd (by omega) (by omega) ?_
    rw [Int.toNat_natCast]
    unfold F155.B9
    refine zaa (fun hb=>?_) fun hb=>?_
    ·have hr:Rch (vAdj fs) i t:=hft.1 (of_decide_eq_true hb)
     unfold F155.B8
     refine hF.sl.pushN zbl (by decide) hGl (n:=1) (ys:=[.int .i64 t]) rfl rfl (by simp;omega) (by simp) fun v' G4 k4 ot4 nb4 f4=>?_
     unfold F155.B7
     refine ⟨by omega,?_⟩
     have p64:2^t<2^64:=Nat.pow_lt_pow_right (by decide) (by omega)
     rw [zbq (by omega) (by omega),Int.toNat_natCast,zbG hz' p64]
     unfold F155.B6
     rw [zad (by omega) (by omega)]
     refine ⟨⟨rfl,rfl,rfl,rfl,rfl,rfl,rfl,k4.le hG (by have:=hG2';omega),by have:=k4.len;omega,k4.own oD hb2,hR.keep k4,t+1,by omega,by omega,?_,z'|||2^t,rfl,zgN hz' p64,fun w=>?_⟩,by simp;omega⟩
     ·rw [zaH,zaE.2 hr];simpa using f4
     ·rw [Nat.testBit_or,Nat.testBit_two_pow,Bool.or_eq_true,hzb',decide_eq_true_iff]
      constructor
      ·rintro ((h|h)|rfl)
       ·exact .inl h
       ·exact .inr ⟨by omega,h.2⟩
       ·exact .inr ⟨by omega,hr⟩
      ·rintro (h|⟨h1,h2⟩)
       ·exact .inl (.inl h)
       ·by_cases e:t=w
        ·exact .inr e
        ·exact .inl (.inr ⟨by omega,h2⟩)
    ·have hr:¬ Rch (vAdj fs) i t:=fun h=>of_decide_eq_false hb (hft.2 h)
     unfold F155.B6
     rw [zad (by omega) (by omega)]
     refine ⟨⟨rfl,rfl,rfl,rfl,rfl,rfl,rfl,hG,hGl,oD,hR,t+1,by omega,by omega,?_,z',rfl,hz',fun w=>?_⟩,by simp;omega⟩
     ·rw [zaH,Bool.eq_false_iff.2 fun h=>hr (zaE.1 h)];simpa using hF
     ·rw [hzb']
      refine or_congr Iff.rfl ⟨fun ⟨h1,h2⟩=>⟨by omega,h2⟩,fun ⟨h1,h2⟩=>⟨?_,h2⟩⟩
      by_cases e:t=w
      ·subst e;exact absurd h2 hr
      ·omega
   ·have htn:t=n.toNat:=by have:=of_decide_eq_false hb;omega
    subst htn
    have hsl:=zcP fs n.toNat i
    unfold F155.B4
    refine hR.push hGl (fun b hb=>by have:=hG2';omega) hF (by omega) fun v' G4 ot nb hlen hR4=>?_
    unfold F155.B3
    rw [zad (by omega) (by omega)]
    refine ⟨⟨rfl,rfl,rfl,?_,i+1,by omega,by omega,?_,z',rfl,hz',fun w=>?_⟩,by simp;omega⟩
    ·refine ⟨by have:=hG.1;omega,fun b o ho=>ot b o (fun hv=>?_) (hG.2 _ _ ho)⟩
     obtain ⟨vs,_,_,q3,_⟩:=hR
     have:=(q3 b hv).1
     have:=zaj ho
     omega
    ·rw [zdy,hl];exact hR4
    ·rw [hzb',hzb]
     constructor
     ·rintro (⟨h1,a,h2,h3⟩|⟨h1,h2⟩)
      ·exact ⟨h1,a,by omega,h3⟩
      ·exact ⟨h1,i,by omega,h2⟩
     ·rintro ⟨h1,a,h2,h3⟩
      by_cases e:a=i
      ·subst e;exact .inr ⟨h1,h3⟩
      ·exact .inl ⟨h1,a,by omega,h3⟩
 ·have hin:i=n.toNat:=by have:=of_decide_eq_false hb;omega
  subst hin
  unfold F155.B1
  exact k _ _ lG (hR.mono (fun b hb=>by have:=l1.1;omega) (Nat.le_refl _))
end Go.Proofs
namespace Go.Proofs
open Go.Abs

variable {H G:AHeap} {v u f:Value} {l m c D:List Int} {es fs:List (Int × Int)} {K:Value→AHeap→Prop} {A:Nat→Prop} {B:Nat} {ls:List (List Int)}

end Go.Proofs
namespace Go.Proofs
open Go.Abs

variable {H G:AHeap} {v u f:Value} {l m c D:List Int} {es fs:List (Int × Int)} {K:Value→AHeap→Prop}

theorem zef {n:Nat} (h:Leads n fs D):∀ k,k≤n→selfs D k=(sidesTo fs n k).length
 | 0,_=>by simp [selfs,sidesTo]
 | k+1,hk=>by
  rw [zdy,List.length_append,← zef h k (by omega),selfs]
  have:=h.self (a:=k) (by omega)
  rw [← za0] at this
  by_cases hl:vLeadB fs k=true
  ·rw [if_pos (this.2 hl),if_pos hl];rfl
  ·rw [if_neg fun h=>hl (this.1 h),if_neg hl];rfl
end Go.Proofs
namespace Go.Proofs
open Go.Abs

variable {H G:AHeap} {v u f:Value} {l m c D:List Int} {es fs:List (Int × Int)} {K:Value→AHeap→Prop} {A A':Nat→Prop} {B:Nat} {ls ms:List (List Int)}

end Go.Proofs
namespace Go.Proofs
open Go.Abs

variable {H G:AHeap}

end Go.Proofs
namespace Go.Proofs
open Go.Abs

variable {H G:AHeap} {v u f:Value} {l m c D:List Int} {es fs:List (Int × Int)} {K:Value→AHeap→Prop} {A:Nat→Prop} {B:Nat} {ls:List (List Int)}

end Go.Proofs
namespace Go.Proofs
open Go.Abs

variable {H G:AHeap} {v u f:Value} {l m c D:List Int} {es fs:List (Int × Int)} {K:Value→AHeap→Prop} {n:Int}

theorem zdB (hg:IsG n es):∀ e∈es,0≤e.1∧e.1<n∧0≤e.2∧e.2<n:=fun e he=>by have:=hg.ed.ends e he;omega
theorem zgm (fs:List (Int × Int)) (n:Nat):(sidesL fs n).length≤n:=zcP fs n n
theorem zfJ (h:Edges H v es) (hg:IsG n es) (k:∀ G,H.le G→K (.bool (decide ((sidesL es n.toNat).length=1))) G) :
 AC Tryz.prog T0 100 [.agg ⟨[.int .i64 n,v]⟩] H K:=by
 apply F100.ac
 unfold F100.B2
 refine zaf (zak (zah h)) fun H1 l1 _ o1=>?_
 unfold F100.B1
 have hz:restL es (fun j=>(0:Nat).testBit j)=es:=zd2 es fun j=>Nat.zero_testBit j
 refine zac o1 rfl (zab o1 rfl (zc8 (s:=0) (h.le l1) hg (by decide) fun q2 H3 l3 hR3=>?_))
 rw [hz] at hR3
 refine hR3.len ?_
 have:=k H3 (AHeap.le_trans l1 l3)
 have e:decide ((sidesL es n.toNat).length=1)=((((sidesL es n.toNat).length:Nat):Int)==1):=by
  rw [Bool.eq_iff_iff,decide_eq_true_iff,beq_iff_eq];omega
 rw [e] at this
 exact this
noncomputable def conCode (n:Int) (es:List (Int × Int)):Int:=if IsG n es then (if (sidesL es n.toNat).length=1 then 0 else 5) else 1
theorem zdC (h:conCode n es=0):IsG n es∧(sidesL es n.toNat).length=1:=by
 unfold conCode at h
 by_cases hg:IsG n es
 ·rw [if_pos hg] at h
  by_cases hs:(sidesL es n.toNat).length=1
  ·exact ⟨hg,hs⟩
  ·rw [if_neg hs] at h;cases h
 ·rw [if_neg hg] at h;cases h
theorem zc0 (h:Edges H v es) (hl:es.length≤1048576) (k:∀ G,H.le G→K (.int .i64 (conCode n es)) G):AC Tryz.prog T0 105 [.agg ⟨[.int .i64 n,v]⟩] H K:=by
 apply F105.ac
 unfold F105.B7
 refine zaf (zak (zah h)) fun H1 l1 _ o1=>?_
 unfold F105.B6
 refine zac o1 rfl (zab o1 rfl (zaA (h.le l1) hl fun H2 l2=>zag ?_))
 have l12:=AHeap.le_trans l1 l2
 have o2:=o1.le l2
 simp only [if_true]
 unfold F105.B5
 by_cases hg:IsG n es
 ·rw [if_pos hg]
  refine zaz rfl ?_
  unfold F105.B3
  refine zac o2 rfl (zab o2 rfl (zfJ (h.le l12) hg fun H3 l3=>zai ?_))
  have k:=k H3 (AHeap.le_trans l12 l3)
  unfold conCode at k
  rw [if_pos hg] at k
  refine zaa (fun hb=>?_) fun hb=>?_
  ·unfold F105.B2
   rw [Bool.not_eq_true'] at hb
   rw [if_neg (of_decide_eq_false hb)] at k;exact k
  ·unfold F105.B1
   rw [Bool.not_eq_false'] at hb
   rw [if_pos (of_decide_eq_true hb)] at k;exact k
 ·rw [if_neg hg]
  refine zay rfl ?_
  unfold F105.B4
  have k:=k H2 l12
  unfold conCode at k
  rw [if_neg hg] at k;exact k
theorem zhW {fs:List (Int × Int)} (h:Edges H u fs) (hg:0<n∧n≤20) (hl:fs.length≤1048576) (hf:∀ e∈fs,0≤e.1∧e.1<n∧0≤e.2∧e.2<n) (k:∀ G,H.le G→K (.int .i64 ((sidesL fs n.toNat).length:Nat)) G) :
 AC Tryz.prog T0 157 [.int .i64 n,u] H K:=
 zjc h hl hg.1 hg.2 hf fun D G l _ hD=>by
  rw [show selfs D n.toNat=(sidesL fs n.toNat).length from zef hD _ (Nat.le_refl _)]
  exact k G l
theorem zcu (h:Edges H v es) (hg:IsG n es) (k:∀ G,H.le G→K (.bool (decide ((sidesL es n.toNat).length=1))) G) :
 AC Tryz.prog T0 102 [.agg ⟨[.int .i64 n,v]⟩] H K:=by
 have n0:=hg.ed.lo;have n1:=hg.ed.hi
 have h30:es.length≤30:=by have:=hg.ed.len;omega
 apply F102.ac
 unfold F102.B2
 refine zaf (zak (zah h)) fun H1 l1 _ o1=>?_
 unfold F102.B1
 refine zac o1 rfl (zab o1 rfl (zhW (h.le l1) ⟨by omega,by omega⟩ (by omega) (zdB hg) fun H2 l2=>zag ?_))
 have:=k H2 (AHeap.le_trans l1 l2)
 have e:decide ((sidesL es n.toNat).length=1)=((((sidesL es n.toNat).length:Nat):Int)==1):=by
  rw [Bool.eq_iff_iff,decide_eq_true_iff,beq_iff_eq];omega
 rw [e] at this
 exact this
end Go.Proofs
namespace Go.Proofs
open Go.Abs

variable {H G:AHeap} {v u f:Value} {l m c D:List Int} {es fs:List (Int × Int)} {K:Value→AHeap→Prop} {n:Int}

end Go.Proofs
namespace Go.Proofs
open Go.Abs

variable {H G:AHeap} {v u f:Value} {l m c D:List Int} {es fs:List (Int × Int)} {K:Value→AHeap→Prop} {n:Int}

theorem zlO {N v j:Nat} (hj:j<N):(setN (sideL fs N v)).testBit j=rchB (vAdj fs) v j:=by
 rw [zbB fun x hx=>by obtain ⟨y,rfl,_⟩:=zcf.1 hx;omega]
 rw [Bool.eq_iff_iff,decide_eq_true_iff,zcf,zaE]
 exact ⟨fun ⟨y,e,_,h⟩=>by rw [show j=y by omega];exact h,fun h=>⟨j,rfl,hj,h⟩⟩
theorem zkt {A:Nat→Prop} {B:Nat} {ls:List (List Int)} (h:RowsF A B H v ls) (k:K (.int .i64 (ls.length:Nat)) H):AC Tryz.prog T0 156 [v] H K:=by
 apply F156.ac
 unfold F156.B2 F156.B1
 exact h.len k
end Go.Proofs
