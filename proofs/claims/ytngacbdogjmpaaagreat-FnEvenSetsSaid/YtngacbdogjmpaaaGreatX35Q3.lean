/- Contracts and plain mathematics for a law, merged. -/
import Derived.Test.YtngacbdogjmpaaaGreatX35Q2
set_option linter.unusedVariables false
set_option linter.unusedSimpArgs false
set_option maxRecDepth 100000
namespace Go.Proofs
open Go.Abs

variable {H:AHeap} {v u f:Value} {l m:List Int} {es fs:List (Int × Int)} {K:Value→AHeap→Prop}

theorem l07Has_ok {x:Int} (h:Ints H v l) (hl:l.length≤4611686018427387904) (k:K (.bool (decide (x∈l))) H):AC Tryz.prog T0 63 [v,.int .i64 x] H K:=by
 apply F63.ac
 unfold F63.B8 F63.B7 F63.L2
 refine ⟨fun x0 x1 x5 G=>x0=v∧x1=x∧0≤x5∧x5≤l.length∧G=H∧∀ i:Nat,(i:Int)<x5→l.getD i 0≠x,fun _ _ x5 _=>l.length-x5.toNat,⟨rfl,rfl,by omega,by omega,rfl,fun i hi=>absurd hi (by omega)⟩,?_⟩
 rintro x0 x1 x5 G ⟨rfl,rfl,h0,h1,rfl,hp⟩
 unfold F63.B6
 refine h.len (pif_cases (fun hb=>?_) fun hb=>?_)
 ·have hlt:x5<l.length:=of_decide_eq_true hb
  obtain ⟨i,rfl⟩:∃ i:Nat,x5=i:=⟨x5.toNat,by omega⟩
  have hi:i<l.length:=by omega
  unfold F63.B5
  refine h.rd h0 hlt ?_
  simp only [Int.toNat_natCast]
  refine pif_cases (fun hs=>?_) fun hs=>?_
  ·unfold F63.B4
   rw [getD_of hi] at hs
   rw [decide_eq_true (by rw [← beq_iff_eq.1 hs];exact List.getElem_mem hi)] at k;exact k
  ·unfold F63.B3
   rw [wrap_id (by omega) (by omega)]
   refine ⟨⟨rfl,rfl,by omega,by omega,rfl,fun j hj=>?_⟩,by simp;omega⟩
   by_cases he:j=i
   ·subst he;exact beq_eq_false_iff_ne.1 hs
   ·exact hp j (by omega)
 ·have hge:¬ x5<l.length:=of_decide_eq_false hb
  unfold F63.B1
  rw [decide_eq_false (fun hx=>by
   obtain ⟨i,hi,rfl⟩:=List.getElem_of_mem hx
   have:=hp i (by omega)
   rw [getD_of hi] at this;exact this rfl)] at k;exact k
def oneOf (a b:List Int) (n:Nat):List Int:=((List.range n).filter (fun (i:Nat)=>decide ((i:Int)∈a) != decide ((i:Int)∈b))).map Int.ofNat
theorem oneOf_succ (a b:List Int) (n:Nat):oneOf a b (n+1)=oneOf a b n++(if decide ((n:Int)∈a) != decide ((n:Int)∈b) then [(n:Int)] else []):=by
 unfold oneOf
 rw [List.range_succ,List.filter_append,List.map_append]
 congr 1
 cases h:decide ((n:Int)∈a) != decide ((n:Int)∈b) <;> simp [h]
theorem oneOf_length (a b:List Int) (n:Nat):(oneOf a b n).length≤n:=by
 unfold oneOf;rw [List.length_map]
 exact Nat.le_trans (List.length_filter_le _ _) (by simp)
theorem oneOf_bits {a b:List Int} {n:Nat} (hn:n≤64) (ha:IsS a n) (hb:IsS b n):bitsL (setN a ^^^ setN b)=oneOf a b n:=by
 have key:∀ k,n+k≤64→oneOf a b (n+k)=oneOf a b n:=by
  intro k
  induction k with
  | zero=>intro _;rfl
  | succ k ih=>
   intro h
   rw [← Nat.add_assoc,oneOf_succ,ih (by omega)]
   have h1:¬ ((n+k:Nat):Int)∈a:=fun h=>by have:=(ha.range _ h).2;omega
   have h2:¬ ((n+k:Nat):Int)∈b:=fun h=>by have:=(hb.range _ h).2;omega
   rw [decide_eq_false h1,decide_eq_false h2];simp
 rw [← key (64-n) (by omega),show n+(64-n)=64 by omega]
 unfold bitsL bitsTo oneOf
 congr 1
 apply List.filter_congr
 intro i _
 rw [Nat.testBit_xor,setN_bit fun x hx=>(ha.range x hx).1,setN_bit fun x hx=>(hb.range x hx).1]
noncomputable def sumCode (n:Int) (es:List (Int × Int)) (a b:List Int):Int:=if IsG n es then (if IsS a es.length∧IsS b es.length then 0 else 2) else 1
noncomputable def sumList (n:Int) (es:List (Int × Int)) (a b:List Int):List Int:=if sumCode n es a b=0 then oneOf a b es.length else []
theorem specSum_ok {n:Int} {va vb:Value} {a b:List Int} (h:Edges H v es) (hl:es.length≤1048576) (ha:Ints H va a) (la:a.length≤1048576) (hb:Ints H vb b) (lb:b.length≤1048576)
 (k:∀ v' G,H.le G→Fresh H.length G v' 2 1 (LI (sumList n es a b))→K (.tuple ⟨[v',.int .i64 (sumCode n es a b)]⟩) G):AC Tryz.prog T0 14 [.agg ⟨[.int .i64 n,v]⟩,va,vb] H K:=by
 apply F14.ac
 unfold F14.B15
 refine newK_f (all_iv (edges_one' h)) fun H1 l1 n1 o1=>?_
 unfold F14.B14
 have nil:∀ c G,H.le G→sumCode n es a b=c→c≠0→K (.tuple ⟨[.slice none 0 0,.int .i64 c]⟩) G:=by
  intro c G hG hc h0
  have:=k (.slice none 0 0) G hG (.inl ⟨by rw [sumList,if_neg (by omega)];rfl,.inl rfl⟩)
  rw [hc] at this;exact this
 refine ldI_own o1 rfl (ld1_own o1 rfl (l03Edges_ok (h.le l1) hl (ha.le l1) la fun H2 l2=>asI_mk ?_))
 have l12:=AHeap.le_trans l1 l2
 have o2:=l2.2 _ _ o1
 unfold F14.B13
 by_cases hg:IsG n es
 ·rw [if_pos hg]
  by_cases sa:IsS a es.length
  ·rw [if_pos sa]
   refine pif_f rfl ?_
   unfold F14.B11
   refine ldI_own o2 rfl (ld1_own o2 rfl (l03Edges_ok (h.le l12) hl (hb.le l12) lb fun H3 l3=>asI_mk ?_))
   have l13:=AHeap.le_trans l12 l3
   have o3:=l3.2 _ _ o2
   rw [if_pos hg]
   unfold F14.B10
   by_cases sb:IsS b es.length
   ·rw [if_pos sb]
    have hc:sumCode n es a b=0:=by rw [sumCode,if_pos hg,if_pos ⟨sa,sb⟩]
    refine pif_f rfl ?_
    unfold F14.B8
    refine newK_f rfl fun H4 l4 n4 o4=>?_
    unfold F14.B7 F14.L2
    have o14:=l4.2 _ _ o3
    have l14:=AHeap.le_trans l13 l4
    have ln:H.length<H3.length:=by have:=l13.1;have:=lt_of_get o3;omega
    refine ⟨fun x1 x2 x3 x10 x11 G=>x1=va∧x2=vb∧x3=H.length∧0≤x11∧x11≤es.length∧H3.le G∧Fresh H3.length G x10 2 1 (LI (oneOf a b x11.toNat)),fun _ _ _ _ x11 _=>es.length-x11.toNat,⟨rfl,rfl,rfl,by omega,by omega,l4,.inr ⟨_,0,Nat.le_refl _,rfl,o4,rfl⟩⟩,?_⟩
    rintro x1 x2 x3 x10 x11 G ⟨rfl,rfl,rfl,h0,h1,hG,hF⟩
    have oG:=hG.2 _ _ o3
    have lG:=AHeap.le_trans l13 hG
    unfold F14.B6
    refine ld1_own oG rfl ((h.le lG).len (pif_cases (fun hb'=>?_) fun hb'=>?_))
    ·have hlt:x11<es.length:=of_decide_eq_true hb'
     obtain ⟨i,rfl⟩:∃ i:Nat,x11=i:=⟨x11.toNat,by omega⟩
     simp only [Int.toNat_natCast] at hF
     unfold F14.B5
     refine l07Has_ok (ha.le lG) (by omega) (asB_mk (l07Has_ok (hb.le lG) (by omega) (asB_mk (pif_cases (fun hs=>?_) fun hs=>?_))))
     ·unfold F14.B4
      refine push_int hF hG (by have:=oneOf_length a b i;omega) fun v' G2 hG2 hF2 _=>?_
      unfold F14.B3
      rw [wrap_id (by omega) (by omega)]
      refine ⟨⟨rfl,rfl,rfl,by omega,by omega,hG2,?_⟩,by simp;omega⟩
      rw [show ((i:Int)+1).toNat=i+1 by omega,oneOf_succ,if_pos (by simpa using hs)];exact hF2
     ·unfold F14.B3
      rw [wrap_id (by omega) (by omega)]
      refine ⟨⟨rfl,rfl,rfl,by omega,by omega,hG,?_⟩,by simp;omega⟩
      rw [show ((i:Int)+1).toNat=i+1 by omega,oneOf_succ,if_neg (by simpa using hs),List.append_nil];exact hF
    ·have hge:¬ x11<es.length:=of_decide_eq_false hb'
     have:x11=es.length:=by omega
     subst this
     unfold F14.B1
     have:=k x10 G lG (by rw [sumList,if_pos hc];exact hF.less (by omega))
     rw [hc] at this;exact this
   ·rw [if_neg sb]
    refine pif_t rfl ?_
    unfold F14.B9
    exact nil 2 _ l13 (by rw [sumCode,if_pos hg,if_neg (fun h=>sb h.2)]) (by decide)
  ·rw [if_neg sa]
   refine pif_t rfl ?_
   unfold F14.B12
   exact nil 2 _ l12 (by rw [sumCode,if_pos hg,if_neg (fun h=>sa h.1)]) (by decide)
 ·rw [if_neg hg]
  refine pif_t rfl ?_
  unfold F14.B12
  exact nil 1 _ l12 (by rw [sumCode,if_neg hg]) (by decide)
theorem implSum_ok {n:Int} {va vb:Value} {a b:List Int} (h:Edges H v es) (hl:es.length≤1048576) (ha:Ints H va a) (la:a.length≤1048576) (hb:Ints H vb b) (lb:b.length≤1048576)
 (k:∀ v' G,H.le G→Fresh H.length G v' 2 1 (LI (sumList n es a b))→K (.tuple ⟨[v',.int .i64 (sumCode n es a b)]⟩) G):AC Tryz.prog T0 11 [.agg ⟨[.int .i64 n,v]⟩,va,vb] H K:=by
 apply F11.ac
 unfold F11.B5
 refine newK_f (all_iv (edges_one' h)) fun H1 l1 n1 o1=>?_
 unfold F11.B4
 have fin:∀ G,H1.le G→F11.B3 K va vb (sumCode n es a b) G:=by
  intro G hG
  have lG:=AHeap.le_trans l1 hG
  unfold F11.B3
  refine pif_cases (fun hc=>?_) fun hc=>?_
  ·unfold F11.B2
   have hc:=bne_iff_ne.1 hc
   exact k _ G lG (.inl ⟨by rw [sumList,if_neg hc];rfl,.inl rfl⟩)
  ·have hc:sumCode n es a b=0:=bne_eq_false_iff_eq.1 hc
   have hh:IsG n es∧IsS a es.length∧IsS b es.length:=by
    unfold sumCode at hc
    by_cases hg:IsG n es
    ·rw [if_pos hg] at hc
     by_cases hs:IsS a es.length∧IsS b es.length
     ·exact ⟨hg,hs⟩
     ·rw [if_neg hs] at hc;omega
    ·rw [if_neg hg] at hc;omega
   obtain ⟨hg,sa,sb⟩:=hh
   have h30:es.length≤30:=by have:=hg.ed.len;have:=hg.ed.hi;omega
   have ra:∀ x∈a,0≤x∧x<64:=fun x hx=>by have:=sa.range x hx;omega
   have rb:∀ x∈b,0≤x∧x<64:=fun x hx=>by have:=sb.range x hx;omega
   have xl:setN a ^^^ setN b<2^64:=Nat.xor_lt_two_pow (setN_lt fun x hx=>(ra x hx).2) (setN_lt fun x hx=>(rb x hx).2)
   unfold F11.B1
   refine setOf_ok (ha.le lG) (by omega) ra (asI_mk (setOf_ok (hb.le lG) (by omega) rb (asI_mk ?_)))
   rw [bits_xor (setN_lt fun x hx=>(ra x hx).2) (setN_lt fun x hx=>(rb x hx).2)]
   refine list_ok xl fun v' G2 hG2 hF2=>?_
   have:=k v' G2 (AHeap.le_trans lG hG2) (by rw [sumList,if_pos hc,← oneOf_bits (by omega) sa sb];exact hF2.less lG.1)
   rw [hc] at this;exact this
 refine ldI_own o1 rfl (ld1_own o1 rfl (ld1_own o1 rfl (lengthE_ok (h.le l1) (asI_mk ⟨AHeap.le_refl _,isSet_ok (ha.le l1) (by omega) (by omega) (by omega) (asB_mk ⟨AHeap.le_refl _,pif_cases (fun hs=>?_) fun hs=>?_⟩)⟩))))
 ·refine ld1_own o1 rfl (lengthE_ok (h.le l1) (asI_mk ⟨AHeap.le_refl _,isSet_ok (hb.le l1) (by omega) (by omega) (by omega) (asB_mk ⟨AHeap.le_refl _,graphCode_ok (h.le l1) hl fun G hG=>asI_mk ?_⟩)⟩))
  have:=fin G hG
  unfold sumCode at this
  by_cases hg:IsG n es
  ·rw [if_pos hg] at this ⊢
   by_cases sb:IsS b es.length
   ·rw [if_pos ⟨of_decide_eq_true hs,sb⟩] at this
    rw [decide_eq_true sb];exact this
   ·rw [if_neg (fun h=>sb h.2)] at this
    rw [decide_eq_false sb];exact this
  ·rw [if_neg hg] at this ⊢;exact this
 ·refine graphCode_ok (h.le l1) hl fun G hG=>asI_mk ?_
  have:=fin G hG
  unfold sumCode at this
  by_cases hg:IsG n es
  ·rw [if_pos hg] at this ⊢
   rw [if_neg (fun h=>of_decide_eq_false hs h.1)] at this;exact this
  ·rw [if_neg hg] at this ⊢;exact this
end Go.Proofs
namespace Go.Proofs
open Go.Abs

variable {es:List (Int × Int)} {p q:Nat→Bool} {n:Int} {e:Nat} {S l a b:List Int}

theorem bitB_comp {j:Nat}:bitB (compL es p e) j=true↔j<es.length∧Rch (eAdj es p) e j:=by
 have hS:IsS (compL es p e) es.length:=asc_isS (filtB_asc _ _) fun y hy=>by obtain ⟨q,rfl,h1,_⟩:=mem_filtB.1 hy;omega
 rw [bitB_mem hS,mem_compL]
 exact ⟨fun ⟨q,h1,h2,h3⟩=>by
  obtain rfl:j=q:=by omega
  exact ⟨h2,h3⟩,fun ⟨h1,h2⟩=>⟨j,rfl,h1,h2⟩⟩
theorem comp_cyP (hp:EvenS n es p) (he:e<es.length) (hpe:p e=true) (hl:cLeadB es p e=true):CyP n es e (compL es p e):=by
 have hin:∀ {j},Rch (eAdj es p) e j→j<es.length∧p j=true:=fun h=>eRch_in h ⟨he,hpe⟩
 refine ⟨asc_isS (filtB_asc _ _) fun y hy=>by obtain ⟨q,rfl,h1,_⟩:=mem_filtB.1 hy;omega,fun w hw=>?_,mem_compL.2 ⟨e,rfl,he,.refl⟩,fun i hi=>?_,fun j hj=>?_⟩
 ·by_cases hz:degB es (bitB (compL es p e)) w=0
  ·rw [hz]
  ·obtain ⟨i,h1,h2,h3⟩:=deg_some (Nat.pos_of_ne_zero hz)
   have hi:=(bitB_comp.1 h2).2
   have:degB es (bitB (compL es p e)) w=degB es p w:=by
    rw [degB_cn,degB_cn]
    refine cn_congr fun j hj=>?_
    rw [Bool.eq_iff_iff,Bool.and_eq_true,Bool.and_eq_true]
    constructor
    ·rintro ⟨g1,g2⟩
     exact ⟨g1,(hin (bitB_comp.1 g2).2).2⟩
    ·rintro ⟨g1,g2⟩
     exact ⟨g1,bitB_comp.2 ⟨hj,.step hi ⟨hj,g2,_,h3,g1⟩⟩⟩
   rw [this];exact hp w hw
 ·obtain ⟨j,rfl,hj,hr⟩:=mem_compL.1 hi
  have:¬ j<e:=fun h=>cLeadB_iff.1 hl j h (hin hr).2 (eRch_symm hr ⟨he,hpe⟩)
  omega
 ·have hr:=(bitB_comp.1 hj).2
  clear hj
  induction hr with
  | refl=>exact .refl
  | step h1 h2 ih=>exact .step ih ⟨h2.1,bitB_comp.2 ⟨h2.1,.step h1 h2⟩,h2.2.2⟩
theorem comp_cyc (hp:EvenS n es p) (he:e<es.length) (hpe:p e=true) (hl:cLeadB es p e=true):IsS (compL es p e) es.length∧cycB n es (compL es p e)=true:=
 ⟨(comp_cyP hp he hpe hl).s,cyB_of (comp_cyP hp he hpe hl)⟩
theorem cycOf_cyc (hS:IsS S es.length) (hp:EvenS n es (bitB S)) {c:List Int} (hc:c∈cycOf es (bitB S) S):IsS c es.length∧cycB n es c=true:=by
 unfold cycOf at hc
 obtain ⟨x,hx,rfl⟩:=List.mem_map.1 hc
 rw [List.mem_filter] at hx
 have hr:=hS.range x hx.1
 obtain ⟨j,rfl⟩:∃ j:Nat,x=j:=⟨x.toNat,by omega⟩
 rw [Int.toNat_natCast] at hx ⊢
 exact comp_cyc hp (by omega) ((bitB_mem hS j).2 hx.1) hx.2
def uni (cs:List (List Int)) (m:Nat):List Int:=filtB (fun j=>decide (∃ c∈cs,(j:Int)∈c)) m
theorem uni_isS {cs:List (List Int)} {m:Nat}:IsS (uni cs m) m:=asc_isS (filtB_asc _ _) fun y hy=>by obtain ⟨q,rfl,h1,_⟩:=mem_filtB.1 hy;omega
theorem mem_uni {cs:List (List Int)} {m j:Nat}:(j:Int)∈uni cs m↔j<m∧∃ c∈cs,(j:Int)∈c:=by
 unfold uni
 rw [mem_filtB]
 exact ⟨fun ⟨q,h1,h2,h3⟩=>by
  obtain rfl:j=q:=by omega
  exact ⟨h2,of_decide_eq_true h3⟩,fun ⟨h1,h2⟩=>⟨j,rfl,h1,decide_eq_true h2⟩⟩
theorem uni_step {cs:List (List Int)} {c:List Int} {m:Nat} (hd:∀ x∈c,∀ c'∈cs,x∉c'):oneOf (uni cs m) c m=uni (cs++[c]) m:=by
 show filtB (fun i=>decide ((i:Int)∈uni cs m) != decide ((i:Int)∈c)) m=filtB _ m
 refine filtB_congr fun j hj=>?_
 by_cases h1:(j:Int)∈c
 ·have h2:(j:Int)∉uni cs m:=fun h=>by
   obtain ⟨_,c',hc',hm⟩:=mem_uni.1 h
   exact hd _ h1 c' hc' hm
  rw [decide_eq_false h2,decide_eq_true h1,decide_eq_true ⟨c,by simp,h1⟩];rfl
 ·rw [decide_eq_false h1]
  by_cases h2:(j:Int)∈uni cs m
  ·obtain ⟨_,c',hc',hm⟩:=mem_uni.1 h2
   rw [decide_eq_true h2,decide_eq_true ⟨c',by simp [hc'],hm⟩];rfl
  ·rw [decide_eq_false h2,decide_eq_false];rfl
   rintro ⟨c',hc',hm⟩
   rcases List.mem_append.1 hc' with h|h
   ·exact h2 (mem_uni.2 ⟨hj,c',h,hm⟩)
   ·rw [List.mem_singleton] at h
    subst h;exact h1 hm
theorem uni_all (hS:IsS S es.length):uni (cycOf es (bitB S) S) es.length=S:=by
 refine Asc.ext (filtB_asc _ _) hS.asc fun x=>?_
 constructor
 ·intro hx
  obtain ⟨j,rfl,hj,_⟩:=mem_filtB.1 hx
  obtain ⟨_,c,hc,hm⟩:=mem_uni.1 hx
  unfold cycOf at hc
  obtain ⟨y,hy,rfl⟩:=List.mem_map.1 hc
  rw [List.mem_filter] at hy
  have hr:=hS.range y hy.1
  obtain ⟨i,h1,h2,h3⟩:=mem_compL.1 hm
  obtain rfl:j=i:=by omega
  have:=(eRch_in h3 ⟨by omega,(bitB_mem hS _).2 (by rw [Int.toNat_of_nonneg hr.1];exact hy.1)⟩).2
  exact (bitB_mem hS j).1 this
 ·intro hx
  have hr:=hS.range x hx
  obtain ⟨j,rfl⟩:∃ j:Nat,x=j:=⟨x.toNat,by omega⟩
  have hpj:=(bitB_mem hS j).2 hx
  refine mem_uni.2 ⟨by omega,?_⟩
  have:∃ i,i<es.length∧bitB S i=true∧cLeadB es (bitB S) i=true∧Rch (eAdj es (bitB S)) i j:=by
   by_cases h:cLead es (bitB S) j
   ·exact ⟨j,by omega,hpj,cLeadB_iff.2 h,.refl⟩
   ·obtain ⟨i,h1,h2,h3,h4⟩:=lead_of hpj h
    exact ⟨i,by omega,h2,cLeadB_iff.2 h3,h4⟩
  obtain ⟨i,h1,h2,h3,h4⟩:=this
  refine ⟨compL es (bitB S) i,?_,mem_compL.2 ⟨j,rfl,by omega,h4⟩⟩
  unfold cycOf
  exact List.mem_map.2 ⟨(i:Int),List.mem_filter.2 ⟨(bitB_mem hS i).1 h2,by rw [Int.toNat_natCast];exact h3⟩,by rw [Int.toNat_natCast]⟩
theorem cycOf_disj (hS:IsS S es.length) {i t:Nat} (hi:i<t) (ht:t<(cycOf es (bitB S) S).length):∀ x∈(cycOf es (bitB S) S).getD t [],x∉(cycOf es (bitB S) S).getD i []:=by
 obtain ⟨F,hF⟩:∃ F,F=S.filter fun x=>cLeadB es (bitB S) x.toNat:=⟨_,rfl⟩
 have hc:cycOf es (bitB S) S=F.map fun x=>compL es (bitB S) x.toNat:=by rw [hF];rfl
 have hFl:t<F.length:=by rw [hc,List.length_map] at ht;exact ht
 have hasc:Asc F:=by rw [hF];exact hS.asc.filter _
 have hget:∀ q (hq:q<F.length),(cycOf es (bitB S) S).getD q []=compL es (bitB S) (F[q]).toNat:=fun q hq=>by
  rw [hc,getD_of (by simpa using hq),List.getElem_map]
 have hm:∀ q (hq:q<F.length),∃ j:Nat,F[q]=(j:Int)∧j<es.length∧bitB S j=true∧cLeadB es (bitB S) j=true:=fun q hq=>by
  have hmem:∀ x∈F,x∈S∧cLeadB es (bitB S) x.toNat=true:=fun x hx=>by rw [hF] at hx;exact List.mem_filter.1 hx
  obtain ⟨h1,h2⟩:=hmem _ (List.getElem_mem hq)
  have hr:=hS.range _ h1
  exact ⟨(F[q]).toNat,by omega,by omega,(bitB_mem hS _).2 (by rw [Int.toNat_of_nonneg hr.1];exact h1),h2⟩
 intro x hx hx2
 rw [hget t hFl] at hx
 rw [hget i (by omega)] at hx2
 obtain ⟨u,hu1,hu2,hu3,hu4⟩:=hm t hFl
 obtain ⟨w,hw1,hw2,hw3,hw4⟩:=hm i (by omega)
 rw [hu1,Int.toNat_natCast] at hx
 rw [hw1,Int.toNat_natCast] at hx2
 obtain ⟨y,rfl,_,hr1⟩:=mem_compL.1 hx
 obtain ⟨y',e',_,hr2⟩:=mem_compL.1 hx2
 obtain rfl:y=y':=by omega
 have hlt:F[i]<F[t]:=by
  unfold Asc at hasc
  rw [List.pairwise_iff_getElem] at hasc
  exact hasc i t (by omega) hFl hi
 exact cLeadB_iff.1 hu4 w (by omega) hw3 (hr2.trans (eRch_symm hr1 ⟨hu2,hu3⟩))
theorem one_bits (ha:IsS a es.length) (hb:IsS b es.length):∀ j,j<es.length→bitB (oneOf a b es.length) j=(bitB a j ^^ bitB b j):=fun j hj=>by
 have hS:IsS (oneOf a b es.length) es.length:=asc_isS (filtB_asc (fun i=>decide ((i:Int)∈a) != decide ((i:Int)∈b)) _) fun y hy=>by
  obtain ⟨q,rfl,h1,_⟩:=mem_filtB (S:=fun i=>decide ((i:Int)∈a) != decide ((i:Int)∈b)).1 hy;omega
 have h1:bitB (oneOf a b es.length) j=true↔(decide ((j:Int)∈a) != decide ((j:Int)∈b))=true:=by
  rw [bitB_mem hS]
  constructor
  ·intro h
   obtain ⟨q,h1,_,h3⟩:=mem_filtB (S:=fun i=>decide ((i:Int)∈a) != decide ((i:Int)∈b)).1 h
   obtain rfl:j=q:=by omega
   exact h3
  ·intro h
   exact mem_filtB (S:=fun i=>decide ((i:Int)∈a) != decide ((i:Int)∈b)).2 ⟨j,rfl,hj,h⟩
 rw [Bool.eq_iff_iff,h1]
 have e1:decide ((j:Int)∈a)=bitB a j:=by rw [Bool.eq_iff_iff,decide_eq_true_iff,bitB_mem ha]
 have e2:decide ((j:Int)∈b)=bitB b j:=by rw [Bool.eq_iff_iff,decide_eq_true_iff,bitB_mem hb]
 rw [e1,e2]
theorem sum_even (ha:IsS a es.length) (hb:IsS b es.length) (h1:EvenS n es (bitB a)):EvenS n es (bitB (oneOf a b es.length))↔EvenS n es (bitB b):=by
 have key:∀ w:Nat,degB es (bitB (oneOf a b es.length)) w%2=(degB es (bitB a) w+degB es (bitB b) w)%2:=fun w=>by
  rw [deg_congr (q:=fun j=>bitB a j ^^ bitB b j) (one_bits ha hb),deg_xor]
 constructor
 ·intro h w hw
  have:=key w;have:=h w hw;have:=h1 w hw;omega
 ·intro h w hw
  have:=key w;have:=h w hw;have:=h1 w hw;omega
theorem wk_set (he:EndsIn n es) {a b k:Nat} (h:Wk (pAdj es p) a k b):∃ Y:Nat→Bool,(∀ j,Y j=true→p j=true∧j<es.length)∧(∀ x:Nat,degB es Y x%2=((if x=a then 1 else 0)+(if x=b then 1 else 0))%2)∧cn Y es.length≤k:=by
 induction h with
 | nil=>
  refine ⟨fun _=>false,fun j h=>absurd h (by simp),fun x=>?_,by rw [cn_zero fun _ _=>rfl];exact Nat.le_refl _⟩
  have h1:degB es (fun _=>false) (x:Int)=0:=by rw [degB_cn];exact cn_zero fun j hj=>by simp
  rw [h1];split <;> rfl
 | @step k x y _ h2 ih=>
  obtain ⟨Y,y1,y2,y3⟩:=ih
  obtain ⟨j,j1,j2,j3⟩:=h2
  refine ⟨fun i=>Y i ^^ decide (i=j),fun i hi=>?_,fun z=>?_,?_⟩
  ·by_cases e:i=j
   ·subst e;exact ⟨j2,j1⟩
   ·simp [e] at hi;exact y1 i hi
  ·rw [deg_xor]
   have hxy:x≠y:=by
    rintro rfl
    obtain ⟨c,d,hcd,hne,_⟩:=he.get j j1
    rw [hcd] at j3
    rcases j3 with h|h <;> (simp only [Prod.mk.injEq] at h;omega)
   have h1:=y2 z
   have h3:degB es (fun i=>decide (i=j)) z=(if z=x then 1 else 0)+(if z=y then 1 else 0):=by
    rcases j3 with j3|j3
    ·exact deg_one j1 j3 hxy z
    ·rw [deg_one j1 j3 hxy.symm z];omega
   rw [h3]
   omega
  ·have h1:cn (fun i=>Y i ^^ decide (i=j)) es.length≤cn (fun i=>Y i||decide (i=j)) es.length:=cn_le fun i _ h=>by
    cases hy:Y i <;> cases hd:decide (i=j) <;> simp_all
   have h2:cn (fun i=>Y i||decide (i=j)) es.length≤cn Y es.length+1:=by
    by_cases hy:Y j=true
    ·have:cn (fun i=>Y i||decide (i=j)) es.length=cn Y es.length:=cn_congr fun i _=>by
      by_cases e:i=j
      ·subst e;simp [hy]
      ·simp [e]
     omega
    ·have:=cn_del (f:=fun i=>Y i||decide (i=j)) (i:=j) (by simp) j1
     have e2:cn (fun i=>(Y i||decide (i=j))&&!decide (i=j)) es.length=cn Y es.length:=cn_congr fun i _=>by
      by_cases e:i=j
      ·subst e;simpa using hy
      ·simp [e]
     omega
   omega
def butE (e j:Nat):Bool:=!decide (j=e)
theorem far_cycle (hg:IsG n es) (he:e<es.length) {k:Nat} (h:Wk (pAdj es (butE e)) (eaN es e) k (ebN es e)):∃ C∈cyRows n es,C.length≤k+1:=by
 have hE:=hg.endsIn
 obtain ⟨q1,q2,q3,q4,q5⟩:=ends_eq hE he
 obtain ⟨Y,y1,y2,y3⟩:=wk_set hE h
 have hYe:Y e=false:=by
  cases hy:Y e with
  | false=>rfl
  | true=>have:=(y1 e hy).1;unfold butE at this;simp at this
 obtain ⟨P,hP⟩:∃ P:Nat→Bool,P=fun j=>Y j ^^ decide (j=e):=⟨_,rfl⟩
 have hev:EvenS n es P:=fun w hw=>by
  rw [hP,deg_xor,deg_one he q1 q2 w]
  have:=y2 w;omega
 have hPe:P e=true:=by rw [hP];simp [hYe]
 have hcn:cn P es.length≤k+1:=by
  have h1:=cn_del (f:=P) hPe he
  have e2:cn (fun i=>P i&&!decide (i=e)) es.length=cn Y es.length:=cn_congr fun i _=>by
   rw [hP]
   by_cases e':i=e
   ·subst e';simp [hYe]
   ·simp [e']
  omega
 obtain ⟨i,h1,h2,h3⟩:∃ i,i<es.length∧P i=true∧cLeadB es P i=true:=by
  by_cases hl:cLead es P e
  ·exact ⟨e,he,hPe,cLeadB_iff.2 hl⟩
  ·obtain ⟨i,h1,h2,h3,_⟩:=lead_of hPe hl
   exact ⟨i,by omega,h2,cLeadB_iff.2 h3⟩
 have hc:=comp_cyc hev h1 h2 h3
 refine ⟨compL es P i,(cyRows_mem hg).2 hc,?_⟩
 unfold compL
 rw [cn_filt]
 refine Nat.le_trans (cn_le fun j hj hr=>?_) hcn
 exact (eRch_in (rchB_iff.1 hr) ⟨h1,h2⟩).2
theorem way_wk (hE:EndsIn n es) {en:Nat}:∀ {f a:Nat} {M:Nat→Bool} {l:List Int},l∈pwL es e en f a M→Wk (pAdj es (butE e)) a l.length en
 | 0,a,M,l,h=>by cases h
 | f+1,a,M,l,h=>by
  by_cases ha:a=en
  ·rw [pwL,if_pos ha,List.mem_singleton] at h
   subst h;subst ha
   exact .nil
  ·obtain ⟨i,r,rfl,h1,h2,h3,_,h5⟩:=wk_cons ha h
   refine .pre ?_ (way_wk hE h5)
   obtain ⟨r1,_,_,_,_⟩:=oe_of hE h1 h2
   obtain ⟨c,d,hcd,_,_,_⟩:=hE.get i h1
   refine ⟨i,h1,by unfold butE;simp;omega,?_⟩
   rw [hcd] at r1 h2 ⊢
   simp only [on,Bool.or_eq_true,beq_iff_eq] at h2
   simp only at r1
   rcases h2 with h2|h2
   ·left;rw [Prod.mk.injEq];omega
   ·right;rw [Prod.mk.injEq];omega
theorem cycle_far (hg:IsG n es) {C:List Int} (hC:C∈cyRows n es):∃ e k,e<es.length∧Wk (pAdj es (butE e)) (eaN es e) k (ebN es e)∧k+1≤C.length:=by
 unfold cyRows at hC
 rw [List.mem_flatMap] at hC
 obtain ⟨e,he,hC⟩:=hC
 rw [List.mem_range] at he
 obtain ⟨l,hl,rfl⟩:=List.mem_map.1 hC
 have hE:=hg.endsIn
 have hw:=wk_prop hE hl (by simp [metB])
 refine ⟨e,l.length,he,(way_wk hE hl).symm pAdj_symm,?_⟩
 have hnd:((e:Int)::l).Nodup:=List.nodup_cons.2 ⟨fun h=>by obtain ⟨j,h1,_,h3⟩:=hw.rng _ h;omega,hw.nd⟩
 have:=nodup_subG hnd (m:=rowOf es.length ((e:Int)::l)) fun x hx=>(mem_rowOf fun i hi=>by
  rcases List.mem_cons.1 hi with rfl|hi
  ·exact ⟨e,rfl,he⟩
  ·obtain ⟨j,h1,h2,_⟩:=hw.rng i hi
   exact ⟨j,h1,h2⟩).2 hx
 simpa using this
theorem cycle_le (hg:IsG n es) {C:List Int} (hC:C∈cyRows n es):(C.length:Int)≤n:=by
 obtain ⟨hs,hc⟩:=(cyRows_mem hg).1 hC
 unfold cycB at hc
 rw [Bool.and_eq_true] at hc
 have hev:=of_decide_eq_true hc.1
 have hE:=hg.endsIn
 have h1:=hands_all hE (bitB C)
 have h2:sm (fun w=>degB es (bitB C) w) n.toNat≤2*n.toNat:=by
  have:∀ k,k≤n.toNat→sm (fun w=>degB es (bitB C) w) k≤2*k:=by
   intro k
   induction k with
   | zero=>intro _;exact Nat.le_refl _
   | succ k ih=>
    intro hk
    have:=ih (by omega)
    have h3:=degB_le_three (p:=bitB C) hg (x:=k) (by omega)
    have h4:=hev k (by omega)
    rw [sm];omega
  exact this _ (Nat.le_refl _)
 have h3:C.length=cn (bitB C) es.length:=by
  conv=>lhs;rw [hs.filt]
  exact cn_filt _ _
 have:=hg.ed.lo
 omega
theorem some_cycle (hg:IsG n es):∃ C,C∈cyRows n es:=by
 have hE:=hg.endsIn
 have hn:=hg.ed.lo
 have hlen:=hg.ed.len
 obtain ⟨S,s1,s2,s3⟩:=dep (List.range n.toNat) ((List.range es.length).map fun j (w:Nat)=>on (es.getD j (0,0)) (w:Int)) (by simp;omega)
 obtain ⟨T,t1,rfl⟩:=List.sublist_map_iff.1 s1
 have hT:T≠[]:=fun h=>s2 (by rw [h];rfl)
 have hTn:T.Nodup:=t1.nodup List.nodup_range
 have hTl:∀ j∈T,j<es.length:=fun j hj=>List.mem_range.1 (t1.subset hj)
 have hev:EvenS n es (fun j=>decide (j∈T)):=fun w hw=>by
  rw [deg_list hTn hTl w,s3 w (List.mem_range.2 (by omega))];rfl
 obtain ⟨j,hj⟩:=List.exists_mem_of_ne_nil T hT
 have hpj:(fun j=>decide (j∈T)) j=true:=decide_eq_true hj
 obtain ⟨i,h1,h2,h3⟩:∃ i,i<es.length∧(fun j=>decide (j∈T)) i=true∧cLeadB es (fun j=>decide (j∈T)) i=true:=by
  by_cases hl:cLead es (fun j=>decide (j∈T)) j
  ·exact ⟨j,hTl j hj,hpj,cLeadB_iff.2 hl⟩
  ·obtain ⟨i,h1,h2,h3,_⟩:=lead_of hpj hl
   exact ⟨i,by have:=hTl j hj;omega,h2,cLeadB_iff.2 h3⟩
 exact ⟨_,(cyRows_mem hg).2 (comp_cyc hev h1 h2 h3)⟩
end Go.Proofs
namespace Go.Proofs
open Go.Abs

variable {H G:AHeap} {v u f:Value} {l m c:List Int} {es fs:List (Int × Int)} {K:Value→AHeap→Prop}

theorem specIsCycle_ok {n:Int} (h:Edges H v es) (hl:es.length≤1048576) (hc:Ints H u l) (hcl:l.length≤1048576)
 (k:∀ G,H.le G→K (.tuple ⟨[.bool (icB n es l),.int .i64 (edCode n es l)]⟩) G):AC Tryz.prog T0 23 [.agg ⟨[.int .i64 n,v]⟩,u] H K:=by
 apply F23.ac
 unfold F23.B5
 refine newK_f (all_iv (edges_one' h)) fun H1 l1 n1 o1=>?_
 unfold F23.B4
 refine ldI_own o1 rfl (ld1_own o1 rfl (l03Edges_ok (h.le l1) hl (hc.le l1) hcl fun H2 l2=>asI_mk ?_))
 have l12:=AHeap.le_trans l1 l2
 rw [show (if IsG n es then (if IsS l es.length then 0 else 2) else 1:Int)=edCode n es l from rfl]
 unfold F23.B3
 unfold icB at k
 refine pif_cases (fun hs=>?_) fun hs=>?_
 ·unfold F23.B2
  have k:=k _ l12
  rw [if_neg (bne_iff_ne.1 hs)] at k;exact k
 ·have h0:edCode n es l=0:=bne_eq_false_iff_eq.1 hs
  obtain ⟨hg,hS⟩:=edCode_zero h0
  unfold F23.B1
  refine ldI_own (o1.le l2) rfl (ld1_own (o1.le l2) rfl (l07Cycle_ok (h.le l12) hg (hc.le l12) hS fun H3 l3=>asB_mk ?_))
  have k:=k _ (AHeap.le_trans l12 l3)
  rw [if_pos h0,h0] at k;exact k
theorem implIsCycle_ok {n:Int} (h:Edges H v es) (hl:es.length≤1048576) (hc:Ints H u l) (hcl:l.length≤1048576)
 (k:∀ G,H.le G→K (.tuple ⟨[.bool (icB n es l),.int .i64 (edCode n es l)]⟩) G):AC Tryz.prog T0 10 [.agg ⟨[.int .i64 n,v]⟩,u] H K:=by
 apply F10.ac
 unfold F10.B5
 refine newK_f (all_iv (edges_one' h)) fun H1 l1 n1 o1=>?_
 unfold F10.B4
 refine ldI_own o1 rfl (ld1_own o1 rfl (edgesCode_ok (h.le l1) hl (hc.le l1) hcl fun H2 l2=>asI_mk ?_))
 have l12:=AHeap.le_trans l1 l2
 rw [show (if IsG n es then (if IsS l es.length then 0 else 2) else 1:Int)=edCode n es l from rfl]
 unfold F10.B3
 unfold icB at k
 refine pif_cases (fun hs=>?_) fun hs=>?_
 ·unfold F10.B2
  have k:=k _ l12
  rw [if_neg (bne_iff_ne.1 hs)] at k;exact k
 ·have h0:edCode n es l=0:=bne_eq_false_iff_eq.1 hs
  obtain ⟨hg,hS⟩:=edCode_zero h0
  have h30:es.length≤30:=by have:=hg.ed.len;have:=hg.ed.hi;omega
  unfold F10.B1
  refine ldI_own (o1.le l2) rfl (ld1_own (o1.le l2) rfl (setOf_ok (hc.le l12) (by omega) (fun x hx=>by have:=hS.range x hx;omega) (asI_mk ⟨AHeap.le_refl _,isCycle_ok (h.le l12) hg hS fun H3 l3=>asB_mk ?_⟩)))
  have k:=k _ (AHeap.le_trans l12 l3)
  rw [if_pos h0,h0] at k;exact k
end Go.Proofs
namespace Go.Proofs
open Go.Abs

variable {H G:AHeap} {v u f:Value} {l m c D:List Int} {es fs:List (Int × Int)} {K:Value→AHeap→Prop} {n:Int}

theorem LI_put (L:List Int) (i:Nat) (x:Int):(LI L).set i (.int .i64 x)=LI (L.set i x):=List.map_set.symm
theorem rep_get (N x:Nat):(List.replicate N (-1:Int)).getD x (-1)=-1:=by
 rw [List.getD_eq_getElem?_getD,List.getElem?_replicate]
 split <;> rfl
def sB (D:List Int) (x:Nat):Bool:=decide (0≤D.getD x (-1))
theorem sB_set {D:List Int} {y:Nat} {d:Int} (hy:y<D.length) (hd:0≤d) (j:Nat):sB (D.set y d) j=insB (sB D) y j:=by
 unfold sB insB
 rw [getQ_set hy]
 by_cases e:j=y
 ·subst e;simp [hd]
 ·have:¬ y=j:=fun h=>e h.symm
  simp [e,this]
structure DsI (adj:Nat→Nat→Prop) (a:Nat) (D:List Int) (Q:List Nat):Prop where
 zero:D.getD a (-1)=0
 wk:∀ y,sB D y=true→∃ k:Nat,D.getD y (-1)=k∧Wk adj a k y
 fin:∀ y z,sB D y=true→y∉Q→adj y z→sB D z=true∧D.getD z (-1)≤D.getD y (-1)+1
 srt:Q.Pairwise fun x y=>D.getD x (-1)≤D.getD y (-1)
 lim:∀ z q,sB D z=true→q∈Q→D.getD z (-1)≤D.getD q (-1)+1
theorem DsI.init {adj:Nat→Nat→Prop} {a:Nat} (h0:D.getD a (-1)=0) (hs:∀ x,sB D x=true↔x=a):DsI adj a D [a]:=
 ⟨h0,fun y hy=>⟨0,by rw [(hs y).1 hy];exact h0,by rw [(hs y).1 hy];exact .nil⟩,fun y z hy hn=>absurd ((hs y).1 hy) (by simpa using hn),List.pairwise_singleton _ _,fun z q hz hq=>by
  rw [(hs z).1 hz,List.mem_singleton.1 hq];omega⟩
theorem DsI.push {adj:Nat→Nat→Prop} {a x y:Nat} {R:List Nat} (h:DsI adj a D (x::R)) (hE:Ex adj a (sB D) (x::R)) (hy:y<D.length) (hn:sB D y=false) (ha:adj x y):DsI adj a (D.set y (D.getD x (-1)+1)) (x::R++[y]):=by
 have hx:sB D x=true:=hE.q x (by simp)
 obtain ⟨kx,kx1,kx2⟩:=h.wk x hx
 have hS:∀ z,sB (D.set y (D.getD x (-1)+1)) z=true↔sB D z=true∨z=y:=fun z=>by
  rw [sB_set hy (by omega)]
  unfold insB
  rw [Bool.or_eq_true,decide_eq_true_iff]
  exact or_congr Iff.rfl eq_comm
 have ne:∀ {z},sB D z=true→z≠y:=fun {z} hz e=>by rw [e,hn] at hz;cases hz
 have g1:∀ {z},z≠y→(D.set y (D.getD x (-1)+1)).getD z (-1)=D.getD z (-1):=fun {z} hz=>by rw [getQ_set hy,if_neg hz]
 have g2:(D.set y (D.getD x (-1)+1)).getD y (-1)=D.getD x (-1)+1:=by rw [getQ_set hy,if_pos rfl]
 have hq:∀ q∈x::R,q≠y:=fun q hq=>ne (hE.q q hq)
 have hle:∀ q∈x::R,D.getD x (-1)≤D.getD q (-1):=fun q hq'=>by
  rcases List.mem_cons.1 hq' with rfl|hq'
  ·exact Int.le_refl _
  ·exact (List.pairwise_cons.1 h.srt).1 q hq'
 refine ⟨?_,fun z hz=>?_,fun u z hu hnu huz=>?_,?_,fun z q hz hq'=>?_⟩
 ·rw [g1 (ne hE.start)];exact h.zero
 ·rcases (hS z).1 hz with hz|rfl
  ·rw [g1 (ne hz)];exact h.wk z hz
  ·rw [g2];exact ⟨kx+1,by omega,.step kx2 ha⟩
 ·have huy:u≠y:=fun e=>hnu (by simp [e])
  have hu':=((hS u).1 hu).resolve_right huy
  have:=h.fin u z hu' (fun hm=>hnu (List.mem_append_left _ hm)) huz
  rw [g1 huy,g1 (ne this.1)]
  exact ⟨(hS z).2 (.inl this.1),this.2⟩
 ·rw [List.pairwise_append]
  refine ⟨h.srt.imp_of_mem fun {p q} hp hq' hpq=>by rw [g1 (hq p hp),g1 (hq q hq')];exact hpq,List.pairwise_singleton _ _,fun q hq' z hz=>?_⟩
  rw [List.mem_singleton] at hz
  subst hz
  rw [g1 (hq q hq'),g2]
  exact h.lim q x (hE.q q hq') (by simp)
 ·rcases List.mem_append.1 hq' with hqm|hq'
  ·rw [g1 (hq q hqm)]
   have hl:=hle q hqm
   rcases (hS z).1 hz with hz|hz
   ·rw [g1 (ne hz)];exact h.lim z q hz hqm
   ·rw [hz,g2];omega
  ·rw [List.mem_singleton] at hq'
   subst hq'
   rw [g2]
   rcases (hS z).1 hz with hz|rfl
   ·rw [g1 (ne hz)]
    have:=h.lim z x hz (by simp);omega
   ·rw [g2];omega
theorem DsI.pop {adj:Nat→Nat→Prop} {a x:Nat} {R:List Nat} (h:DsI adj a D (x::R)) (ha:∀ y,adj x y→sB D y=true):DsI adj a D R:=by
 refine ⟨h.zero,h.wk,fun u z hu hnu huz=>?_,(List.pairwise_cons.1 h.srt).2,fun z q hz hq=>h.lim z q hz (by simp [hq])⟩
 by_cases e:u=x
 ·subst e
  exact ⟨ha z huz,h.lim z u (ha z huz) (by simp)⟩
 ·exact h.fin u z hu (fun hm=>by
   rcases List.mem_cons.1 hm with hm|hm
   ·exact e hm
   ·exact hnu hm) huz
theorem DsI.least {adj:Nat→Nat→Prop} {a:Nat} (h:DsI adj a D []) {k y:Nat} (w:Wk adj a k y):sB D y=true∧D.getD y (-1)≤k:=by
 induction w with
 | nil=>exact ⟨by unfold sB;rw [h.zero];rfl,by rw [h.zero];omega⟩
 | step _ h2 ih=>
  have:=h.fin _ _ ih.1 (by simp) h2
  exact ⟨this.1,by omega⟩
structure InW (adj:Nat→Nat→Prop) (N e x M:Nat) (P:Nat→Prop) (S:Nat→Bool) (Q:List Nat):Prop where
 ex:Ex adj e S (x::Q)
 bnd:∀ y,S y=true→y<N
 mu:2*unseen S N+(Q.length+1)≤M
 past:∀ j,P j→S j=true
theorem InW.more {adj:Nat→Nat→Prop} {N e x M:Nat} {P P':Nat→Prop} {S:Nat→Bool} {Q:List Nat} (h:InW adj N e x M P S Q) (hd:∀ j,P' j→P j∨S j=true):InW adj N e x M P' S Q:=
 ⟨h.ex,h.bnd,h.mu,fun j hj=>(hd j hj).elim (h.past j) id⟩
theorem InW.push {adj:Nat→Nat→Prop} {N e x M y:Nat} {P P':Nat→Prop} {S S':Nat→Bool} {Q:List Nat} (h:InW adj N e x M P S Q) (hy:adj x y) (hyN:y<N) (hn:S y=false) (hs:∀ j,S' j=insB S y j) (hd:∀ j,P' j→P j∨j=y):InW adj N e x M P' S' (Q++[y]):=by
 obtain rfl:S'=insB S y:=funext hs
 have hx:S x=true:=h.ex.q x (by simp)
 refine ⟨h.ex.push hx hy,fun z hz=>?_,?_,fun j hj=>?_⟩
 ·by_cases e':z=y
  ·rw [e'];exact hyN
  ·exact h.bnd z (insB_ne hz e')
 ·have:=unseen_ins (n:=N) hyN hn
  have:=h.mu
  simp;omega
 ·rcases hd j hj with hj|rfl
  ·exact insB_of (h.past j hj)
  ·exact insB_self _ _
theorem InW.pop {adj:Nat→Nat→Prop} {N e x M:Nat} {P:Nat→Prop} {S:Nat→Bool} {Q:List Nat} (h:InW adj N e x M P S Q) (hd:∀ y,adj x y→P y):Ex adj e S Q∧2*unseen S N+Q.length<M:=
 ⟨h.ex.pop fun y hy=>h.past y (hd y hy),by have:=h.mu;omega⟩
def PasW (es:List (Int × Int)) (p:Nat→Bool) (x t:Nat) (j:Nat):Prop:=∃ t' i:Nat,t'<t∧t'<(atL es x).length∧(atL es x).getD t' 0=i∧p i=true∧j=oe es i x
theorem PasW.step {p:Nat→Bool} {x t j i:Nat} (h:PasW es p x (t+1) j) (hi:(atL es x).getD t 0=i):PasW es p x t j∨(p i=true∧j=oe es i x):=by
 obtain ⟨t',i',h1,h2,h3,h4,h5⟩:=h
 by_cases e:t'=t
 ·subst e
  obtain rfl:i'=i:=by omega
  exact .inr ⟨h4,h5⟩
 ·exact .inl ⟨t',i',by omega,h2,h3,h4,h5⟩
theorem PasW.fin (hE:EndsIn n es) {p:Nat→Bool} {x y:Nat} (h:pAdj es p x y):PasW es p x (atL es x).length y:=by
 obtain ⟨j,h1,h2,h3⟩:=h
 have ho:on (es.getD j (0,0)) x=true:=by rcases h3 with h|h <;> rw [h] <;> simp [on]
 obtain ⟨t,ht,hte⟩:=List.getElem_of_mem (mem_atL.2 ⟨j,rfl,h1,ho⟩)
 refine ⟨t,j,ht,ht,by rw [getD_of ht,hte],h2,?_⟩
 unfold oe
 rcases h3 with h|h <;> rw [h] <;> simp only <;> omega
def markB (G:AHeap) (b:Nat) (j:Nat):Bool:=
 match G[b]? with
 | some (some (.row cs _ _))=>(match cs[j]? with|some (.int _ x)=>decide (0≤x)|_=>false)
 | _=>false
theorem markB_own {b:Nat} {t:TypeId} (h:Own G b t (LI D)):markB G b=sB D:=by
 funext j
 unfold markB sB
 rw [show G[b]?=_ from h]
 by_cases hj:j<D.length
 ·simp [hj]
 ·simp [hj]
structure DsT (bf:Nat) (N:Nat) (G:AHeap) (D:List Int):Prop where
 own:Own G bf 2 (LI D)
 len:D.length=N
 lo:∀ x,-1≤D.getD x (-1)
 hi:∀ x,D.getD x (-1)≤1000-(unseen (sB D) N:Int)
theorem DsT.set {bf N y x:Nat} (h:DsT bf N G D) (hy:y<N) (hn:sB D y=false) (hx:sB D x=true) {G':AHeap} (ho:Own G' bf 2 (LI (D.set y (D.getD x (-1)+1)))):DsT bf N G' (D.set y (D.getD x (-1)+1)):=by
 have hl:=h.len
 have hx0:0≤D.getD x (-1):=of_decide_eq_true hx
 have hs:sB (D.set y (D.getD x (-1)+1))=insB (sB D) y:=funext fun j=>sB_set (by omega) (by omega) j
 have hu:=unseen_ins (S:=sB D) (n:=N) hy hn
 refine ⟨ho,by simp [hl],fun z=>?_,fun z=>?_⟩
 ·rw [getQ_set (by omega)]
  split
  ·omega
  ·exact h.lo z
 ·rw [hs,getQ_set (by omega)]
  have h1:=h.hi x
  have h2:=h.hi z
  split <;> omega
set_option maxHeartbeats 1000000 in
theorem distances2_ok {s a:Nat} (h:Edges H v es) (hg:IsG n es) (hs:s<2^64) (ha:(a:Int)<n)
 (k:∀ v' D G,H.le G→Fresh H.length G v' 2 1 (LI D)→D.length=n.toNat→(∀ x:Nat,x<n.toNat→(0≤D.getD x (-1)↔Rch (pAdj es fun j=>!s.testBit j) a x))→DsI (pAdj es fun j=>!s.testBit j) a D []→(∀ x,D.getD x (-1)≤1000)→K v' G) :
 AC Tryz.prog T0 75 [.agg ⟨[.int .i64 n,v]⟩,.int .i64 (a:Nat),.int .u64 (s:Nat)] H K:=by
 have h30:es.length≤30:=by have:=hg.ed.len;have:=hg.ed.hi;omega
 have hn20:=hg.ed.hi
 have hE:=hg.endsIn
 obtain ⟨N,hN⟩:∃ N:Nat,n=N:=⟨n.toNat,by omega⟩
 apply F75.ac
 unfold F75.B17
 refine newK_f (all_iv (edges_one' h)) fun H1 l1 n1 o1=>?_
 unfold F75.B16
 refine newK_f rfl fun H2 l2 n2 o2=>ldI_own (o1.le l2) rfl (repeat_ok (t:=-1) o2 (by omega) (by omega) fun H3 l3 o3=>?_)
 subst hN
 rw [Int.toNat_natCast] at o3 k ⊢
 have haN:a<N:=by omega
 unfold F75.B15
 refine own_idx (by omega) (by omega) (stK_1 o3 (by simp;omega) rfl fun H4 b4 o4=>?_)
 unfold F75.B14
 refine newK_f rfl fun H5 l5 n5 o5=>?_
 have hbf:=o4.lt
 have l24:H2.le H4:=b4.le l3 (Nat.le_refl _)
 have l02:=AHeap.le_trans l1 l2
 have l05:H.le H5:=AHeap.le_trans l02 (AHeap.le_trans l24 l5)
 have o15:Own H5 H.length 26 _:=(o1.le l2).le (AHeap.le_trans l24 l5)
 have hb1:H.length<H2.length:=(o1.le l2).lt
 rw [Int.toNat_natCast,LI_put] at o4
 let p:Nat→Bool:=fun j=>!s.testBit j
 have hS0:∀ x,sB ((List.replicate N (-1)).set a 0) x=true↔x=a:=fun x=>by
  rw [sB_set (by rw [List.length_replicate];exact haN) (Int.le_refl _)]
  unfold insB sB
  rw [rep_get,decide_eq_false (by omega),Bool.false_or,decide_eq_true_iff,eq_comm]
 have hu0:=unseen_le (sB ((List.replicate N (-1)).set a 0)) N
 have hv0:∀ x,-1≤((List.replicate N (-1:Int)).set a 0).getD x (-1)∧((List.replicate N (-1:Int)).set a 0).getD x (-1)≤0:=fun x=>by
  rw [getQ_set (by rw [List.length_replicate];exact haN),rep_get]
  split <;> omega
 unfold F75.L2
 refine ⟨fun x2 x3 x7 x8 G=>(s:Int)=x2∧H.length=x3∧.slice (some ⟨H2.length,0,none⟩) N (N+1)=x7∧H.le G∧Own G H.length 26 [.int .i64 (N:Int),v]∧H4.length≤G.length∧∃ (D:List Int) (Q:List Nat),DsT H2.length N G D∧Ex (pAdj es p) a (sB D) Q∧DsI (pAdj es p) a D Q∧(∀ y,sB D y=true→y<N)∧2*unseen (sB D) N+Q.length≤100∧Sl H4.length G x8 2 1 (LI (NI Q)),
  fun _ _ x7 x8 G=>2*unseen (markB G H2.length) N+lenV x8,⟨rfl,rfl,rfl,l05,o15,l5.1,_,[a],⟨o4.le l5,by simp,fun x=>(hv0 x).1,fun x=>by have:=(hv0 x).2;omega⟩,.init hS0,.init (by rw [getQ_set (by rw [List.length_replicate];exact haN),if_pos rfl]) hS0,fun y hy=>by rw [(hS0 y).1 hy];exact haN,by simp;omega,Fresh.sl (.inr ⟨_,1,Nat.le_refl _,rfl,o5,rfl⟩)⟩,?_⟩
 clear o5 l5 n5 o15 l05 o4 b4 o3 l3 o2 n2
 rintro x2 x3 x7 x8 G ⟨rfl,rfl,rfl,lG,oG,hlG,D,Q,hD,hX,hI,hB,hU,hQ⟩
 unfold F75.B13
 refine hQ.len (by decide) (n:=Q.length) (by simp) (pif_cases (fun hb=>?_) fun hb=>?_)
 ·cases Q with
  | nil=>simp at hb
  | cons x Q=>
  have hxN:x<N:=hB x (hX.q x (by simp))
  have hmu:2*unseen (markB G H2.length) N+lenV x8=2*unseen (sB D) N+(Q.length+1):=by
   rw [Sl_lenV hQ,markB_own hD.own];simp
  have hU:2*unseen (sB D) N+(Q.length+1)≤100:=hU
  have hx0:(0:Int)≤(x:Int)∧(x:Int)<(N:Int):=by omega
  have h3:=hg.three hx0.1 hx0.2
  unfold F75.B12
  refine ldI_own oG rfl (ld1_own oG rfl (hQ.ints.rd (by decide) (by simp) ?_))
  rw [show (NI (x::Q)).getD (0:Int).toNat 0=(x:Int) from rfl]
  refine at_ok (h.le lG) (by omega) fun w G2 hG2 hF=>hF.len (by decide) (n:=3) (by rw [List.length_map,h3]) ?_
  have lG2:=AHeap.le_trans lG hG2
  obtain ⟨M0,hM0⟩:∃ M0,M0=2*unseen (markB G H2.length) N+lenV x8:=⟨_,rfl⟩
  rw [← hM0] at hmu
  have hM100:M0≤100:=by omega
  unfold F75.L4
  refine ⟨fun x2 x3 x7 x8 x30 x31 x32 G=>(s:Int)=x2∧H.length=x3∧.slice (some ⟨H2.length,0,none⟩) N (N+1)=x7∧w=x30∧3=x31∧H.le G∧Own G H.length 26 [.int .i64 (N:Int),v]∧H4.length≤G.length∧Sl 0 G w 2 1 (LI (atL es x))∧(∀ b,bk w=some b→bk x8≠some b∧b≠H2.length)∧
   ∃ (t:Nat) (D:List Int) (R:List Nat),x32=t∧t≤3∧DsT H2.length N G D∧InW (pAdj es p) N a x M0 (PasW es p x t) (sB D) R∧DsI (pAdj es p) a D (x::R)∧Sl H4.length G x8 2 1 (LI (NI (x::R))),
   fun _ _ _ _ _ _ x32 _=>3-x32.toNat,⟨rfl,rfl,rfl,rfl,rfl,lG2,oG.le hG2,Nat.le_trans hlG hG2.1,hF.less (Nat.zero_le _),fun b hb=>?_,0,D,Q,rfl,by omega,⟨hD.own.le hG2,hD.len,hD.lo,hD.hi⟩,⟨hX,hB,by omega,fun j ⟨t',_,h,_⟩=>absurd h (by omega)⟩,hI,hQ.le hG2⟩,?_⟩
  ·have h1:=(hF.lt hb).1
   exact ⟨fun hb'=>by have:=(hQ.lt hb').2;omega,by omega⟩
  clear hX hQ hF hD hI hU hB hb hG2 lG2 lG oG hlG hmu
  rintro x2 x3 x7 x8' x30 x31 x32 G ⟨rfl,rfl,rfl,rfl,rfl,lG,oG,hlG,hW,hA,t,D,R,rfl,ht,hD,hX,hI,hQ⟩
  have hDl:=hD.len
  unfold F75.B11
  refine pif_cases (fun hb=>?_) fun hb=>?_
  ·have ht3:t<3:=by have:=of_decide_eq_true hb;omega
   obtain ⟨i,hi1,hi2,hi3⟩:=at_get (es:=es) (w:=(x:Int)) (t:=t) (by omega)
   obtain ⟨q1,q2,q3,q4,q5⟩:=oe_of hE hi2 hi3
   have hwN:oe es i x<N:=by omega
   have hadj:p i=true→pAdj es p x (oe es i x):=fun hp=>by
    obtain ⟨c,d,hcd,hne,_⟩:=hE.get i hi2
    refine ⟨i,hi2,hp,?_⟩
    have e1:=q5 c;have e2:=q5 d
    rw [hcd] at e1 e2 q1 hi3 ⊢
    simp only [on,Bool.or_eq_true,beq_iff_eq] at hi3
    simp only at q1
    rcases hi3 with h|h
    ·left;rw [Prod.mk.injEq];omega
    ·right;rw [Prod.mk.injEq];omega
   have hpast:∀ j,PasW es p x (t+1) j→PasW es p x t j∨(p i=true∧j=oe es i x):=fun j hj=>hj.step hi1
   obtain ⟨d1,d2,d3,d4,d5⟩:=hg.ed.ends es[i] (List.getElem_mem hi2)
   rw [← getD_of (d:=(0,0)) hi2] at d1 d2 d3 d4 d5
   obtain ⟨bb,oo,hk,c1,c2⟩:=(h.le lG).idx (show (0:Int)≤i by omega) (by omega)
   simp only [Int.toNat_natCast] at c1 c2
   unfold F75.B10
   refine hW.ints.rd (by omega) (by omega) ?_
   simp only [Int.toNat_natCast,hi1]
   unfold F75.B9
   refine ld1_own oG rfl (hk _ (ldI_mk c1 (ldI_mk c2 (hQ.ints.rd (by decide) (by simp) ?_))))
   rw [show (NI (x::R)).getD (0:Int).toNat 0=(x:Int) from rfl]
   refine other_ok (by omega) (by omega) (by omega) fun G2 lG2=>asI_mk ?_
   rw [q1]
   have oG:=oG.le lG2
   have hW:=hW.le lG2
   have hQ:=hQ.le lG2
   have hD:DsT H2.length N G2 D:=⟨hD.own.le lG2,hD.len,hD.lo,hD.hi⟩
   have lG:=AHeap.le_trans lG lG2
   have hlG:=Nat.le_trans hlG lG2.1
   have rdD:∀ y:Nat,y<N→(LI D)[(y:Int).toNat]?=some (.int .i64 (D.getD y (-1))):=fun y hy=>by
    have hy':y<D.length:=by omega
    rw [Int.toNat_natCast,List.getElem?_map,List.getElem?_eq_getElem hy',getD_of hy'];rfl
   unfold F75.B8
   refine own_idx (by omega) (by omega) (ldI_own hD.own (rdD _ hwN) (pif_cases (fun hb=>?_) fun hb=>?_))
   ·have hn:sB D (oe es i x)=false:=by unfold sB;have:=of_decide_eq_true hb;exact decide_eq_false (by omega)
    refine has_ok hs (by omega) (asB_mk (pif_cases (fun hb=>?_) fun hb=>?_))
    ·have hp:p i=true:=by
      show (!s.testBit i)=true
      simpa using hb
     have hxs:sB D x=true:=hX.ex.q x (by simp)
     have dx0:0≤D.getD x (-1):=of_decide_eq_true hxs
     have dx1:=hD.hi x
     unfold F75.B7
     refine hQ.ints.rd (by decide) (by simp) ?_
     rw [show (NI (x::R)).getD (0:Int).toNat 0=(x:Int) from rfl]
     refine own_idx (by omega) (by omega) (ldI_own hD.own (rdD _ hxN) (own_idx (by omega) (by omega) (stK_1 hD.own (by simp;omega) rfl fun G3 b3 o3=>?_)))
     rw [wrap_id (by omega) (by omega)] at o3
     rw [Int.toNat_natCast,LI_put] at o3
     have hD3:=hD.set hwN hn hxs o3
     have hbQ:∀ b,bk x8'=some b→b≠H2.length:=fun b hb=>by have:=(hQ.lt hb).1;omega
     have hQ3:Sl H4.length G3 x8' 2 1 (LI (NI (x::R))):=hQ.oth (w:=.slice (some ⟨H2.length,0,none⟩) 0 (0+1)) (fun c o hc ho=>by rw [b3.same c (fun h=>hc (by rw [h];rfl))];exact ho) fun b hb hb'=>hbQ b hb (by cases hb';rfl)
     unfold F75.B6
     have hb3:=b3.len
     refine hQ3.pushN E_int (by decide) (by omega) (n:=1) (ys:=[.int .i64 (oe es i x:Nat)]) rfl rfl (by have:=hX.mu;simp;omega) (by simp) fun v' G4 k4 ot4 nb4 f4=>?_
     have lH3:H.le G3:=b3.le lG (by omega)
     unfold F75.B5
     rw [wrap_id (by omega) (by omega)]
     have hD4:DsT H2.length N G4 (D.set (oe es i x) (D.getD x (-1)+1)):=⟨k4.old _ _ (by have:=hD3.own.lt;omega) hD3.own,hD3.len,hD3.lo,hD3.hi⟩
     have hW3:Sl 0 G3 w 2 1 (LI (atL es x)):=hW.oth (w:=.slice (some ⟨H2.length,0,none⟩) 0 (0+1)) (fun c o hc ho=>by rw [b3.same c (fun h=>hc (by rw [h];rfl))];exact ho) fun b hb hb'=>(hA b hb).2 (by cases hb';rfl)
     refine ⟨⟨rfl,rfl,rfl,rfl,rfl,k4.le lH3 (by omega),k4.old _ _ (by omega) (by rw [b3.same _ (by omega)];exact oG),by have:=k4.len;omega,hW3.oth ot4 fun b hb=>(hA b hb).1,fun b hb=>⟨fun hb'=>by have:=(hW3.lt hb).2;have:=nb4 b hb';omega,(hA b hb).2⟩,t+1,D.set (oe es i x) (D.getD x (-1)+1),R++[oe es i x],by omega,by omega,hD4,hX.push (hadj hp) hwN hn (fun j=>sB_set (by omega) (by omega) j) (fun j hj=>(hpast j hj).imp id fun h=>h.2),hI.push hX.ex (by omega) hn (hadj hp),by simpa using f4.sl⟩,by simp;omega⟩
    ·have hp:p i=false:=by
      show (!s.testBit i)=false
      simpa using hb
     unfold F75.B5
     rw [wrap_id (by omega) (by omega)]
     refine ⟨⟨rfl,rfl,rfl,rfl,rfl,lG,oG,hlG,hW,hA,t+1,D,R,by omega,by omega,hD,hX.more fun j hj=>?_,hI,hQ⟩,by simp;omega⟩
     rcases hpast j hj with h|⟨h,_⟩
     ·exact .inl h
     ·rw [hp] at h;cases h
   ·have hn:sB D (oe es i x)=true:=by unfold sB;have:=of_decide_eq_false hb;exact decide_eq_true (by omega)
    unfold F75.B5
    rw [wrap_id (by omega) (by omega)]
    refine ⟨⟨rfl,rfl,rfl,rfl,rfl,lG,oG,hlG,hW,hA,t+1,D,R,by omega,by omega,hD,hX.more fun j hj=>?_,hI,hQ⟩,by simp;omega⟩
    rcases hpast j hj with h|⟨_,rfl⟩
    ·exact .inl h
    ·exact .inr hn
  ·have ht3:t=3:=by have:=of_decide_eq_false hb;omega
   subst ht3
   unfold F75.B3
   obtain ⟨hE2,hlt⟩:=hX.pop fun y hy=>by rw [← h3];exact PasW.fin hE hy
   refine hQ.drop (i:=1) (n:=R.length+1) (by simp) (by decide) (by omega) (by omega) fun v' hv'=>?_
   have hv':Sl H4.length G v' 2 1 (LI (NI R)):=by simpa using hv'
   refine ⟨⟨rfl,rfl,rfl,lG,oG,hlG,D,R,hD,hE2,hI.pop fun y hy=>hX.past y (by rw [← h3];exact PasW.fin hE hy),hX.bnd,by omega,hv'⟩,?_⟩
   show 2*unseen (markB G H2.length) N+lenV v'<2*unseen (markB _ H2.length) N+lenV x8
   rw [markB_own hD.own,Sl_lenV hv',← hM0]
   simpa using hlt
 ·have hz:Q=[]:=by
   have:=of_decide_eq_false hb
   cases Q with
   | nil=>rfl
   | cons x Q=>simp at this
  subst hz
  unfold F75.B1
  have hDl:=hD.len
  refine k _ D G lG (.inr ⟨_,N,by omega,rfl,hD.own,by simp [hDl]⟩) hDl (fun x hx=>?_) hI fun x=>by have:=hD.hi x;omega
  rw [← hX.fin x]
  exact decide_eq_true_iff.symm
theorem distancesA_ok {s a:Nat} (h:Edges H v es) (hg:IsG n es) (hs:s<2^64) (ha:(a:Int)<n)
 (k:∀ v' D G,H.le G→Fresh H.length G v' 2 1 (LI D)→D.length=n.toNat→(∀ x:Nat,x<n.toNat→(0≤D.getD x (-1)↔Rch (pAdj es fun j=>!s.testBit j) a x))→K v' G) :
 AC Tryz.prog T0 75 [.agg ⟨[.int .i64 n,v]⟩,.int .i64 (a:Nat),.int .u64 (s:Nat)] H K:=
 distances2_ok h hg hs ha fun v' D G h1 h2 h3 h4 _ _=>k v' D G h1 h2 h3 h4
end Go.Proofs
namespace Go.Proofs
open Go.Abs

variable {H G:AHeap} {v u f:Value} {l m c D:List Int} {es fs:List (Int × Int)} {K:Value→AHeap→Prop} {n:Int}

structure ForTo (es:List (Int × Int)) (T i:Nat):Prop where
 lt:∀ j,T.testBit j=true→j<i
 is:∀ j,j<i→j<es.length→∀ a b:Nat,es.getD j (0,0)=((a:Int),(b:Int))→(T.testBit j=true↔¬ Rch (pAdj es fun k=>T.testBit k&&decide (k<j)) a b)
theorem ForTo.step {T T' i:Nat} (h:ForTo es T i) (hi:i<es.length) (ho:∀ j,j≠i→T'.testBit j=T.testBit j)
 (hs:∀ a b:Nat,es.getD i (0,0)=((a:Int),(b:Int))→(T'.testBit i=true↔¬ Rch (pAdj es fun k=>T.testBit k) a b)):ForTo es T' (i+1):=by
 refine ⟨fun j hj=>?_,fun j hj hjm a b hab=>?_⟩
 ·by_cases e:j=i
  ·omega
  ·rw [ho j e] at hj;have:=h.lt j hj;omega
 ·have e1:∀ j,j≤i→(fun k=>T'.testBit k&&decide (k<j))=fun k=>T.testBit k&&decide (k<j):=fun j hj=>by
   funext k
   by_cases e:k=i
   ·have:¬ k<j:=by omega
    simp [this]
   ·rw [ho k e]
  rw [e1 j (by omega)]
  by_cases e:j=i
  ·subst e
   rw [hs a b hab]
   have e2:(fun k=>T.testBit k&&decide (k<j))=fun k=>T.testBit k:=by
    funext k
    cases hk:T.testBit k with
    | false=>rfl
    | true=>simp [h.lt k hk]
   rw [e2]
  ·rw [ho j e];exact h.is j (by omega) hjm a b hab
theorem ForTo.forest {T:Nat} (h:ForTo es T es.length):Forest es fun j=>T.testBit j:=by
 refine ⟨fun j hj ht a b hab=>(h.is j hj hj a b hab).1 ht,fun j hj ht a b hab=>?_⟩
 apply Classical.byContradiction
 intro hn
 have:=(h.is j hj hj a b hab).2 hn
 rw [ht] at this;cases this
theorem pAdj_same {p q:Nat→Bool} (h:∀ j,j<es.length→p j=q j):pAdj es p=pAdj es q:=by
 funext a b
 exact propext ⟨pAdj_mono (fun j hj hp=>by rw [← h j hj];exact hp) a b,pAdj_mono (fun j hj hp=>by rw [h j hj];exact hp) a b⟩
set_option maxHeartbeats 1000000 in
theorem basis_ok (h:Edges H v es) (hg:IsG n es)
 (k:∀ v' os (t:Nat→Bool) G,H.le G→Fresh H.length G v' 55 1 (LU os)→Forest es t→Bas n es t es.length os→(∀ o∈os,o<2^64)→K v' G) :
 AC Tryz.prog T0 66 [.agg ⟨[.int .i64 n,v]⟩] H K:=by
 have h30:es.length≤30:=by have:=hg.ed.len;have:=hg.ed.hi;omega
 have hn20:=hg.ed.hi
 have hE:=hg.endsIn
 have p30:2^es.length≤2^30:=Nat.pow_le_pow_right (by decide) h30
 have q30:=Nat.two_pow_pos es.length
 apply F66.ac
 unfold F66.B32
 refine newK_f (all_iv (edges_one' h)) fun H1 l1 n1 o1=>?_
 unfold F66.B31 F66.B30 F66.B29
 refine ld1_own o1 rfl ((h.le l1).len ?_)
 unfold F66.L23
 refine ⟨fun x1 x3 x4 x13 x14 x15 G=>H.length=x1∧.slice none 0 0=x4∧v=x13∧(es.length:Int)=x14∧H1.le G∧∃ i T:Nat,x15=i∧x3=(T:Int)∧i≤es.length∧ForTo es T i,fun _ _ _ _ _ x15 _=>es.length-x15.toNat,⟨rfl,rfl,rfl,rfl,AHeap.le_refl _,0,0,rfl,rfl,by omega,⟨fun j hj=>by simp at hj,fun j hj=>by omega⟩⟩,?_⟩
 rintro x1 x3 x4 x13 x14 x15 G ⟨rfl,rfl,rfl,rfl,lG1,i,T,rfl,rfl,hi,hT⟩
 have lG:=AHeap.le_trans l1 lG1
 have oG:=o1.le lG1
 have hTm:∀ {T:Nat},ForTo es T es.length→T<2^es.length:=fun hT=>bits_lt fun j hj=>hT.lt j hj
 have hT64:T<2^64:=by
  have:T<2^i:=bits_lt fun j hj=>hT.lt j hj
  have:2^i≤2^30:=Nat.pow_le_pow_right (by decide) (by omega)
  omega
 unfold F66.B28
 refine pif_cases (fun hb=>?_) fun hb=>?_
 ·have hlt:i<es.length:=by have:=of_decide_eq_true hb;omega
  obtain ⟨a,b,hab,hne,han,hbn⟩:=hE.get i hlt
  obtain ⟨bb,oo,hk,c1,c2⟩:=(h.le lG).idx (show (0:Int)≤i by omega) (by omega)
  simp only [Int.toNat_natCast,hab] at c1 c2
  unfold F66.B27
  refine hk _ (ldI_mk c1 (ldI_mk c2 (newK_f rfl fun G1 g1 m1 p1=>stK_f (new:=[.int .i64 (a:Int),.int .i64 (b:Int)]) p1 (by simp) (by intro v hv;simp at hv;rcases hv with rfl|rfl <;> rfl) rfl fun G2 b2 p2=>?_)))
  have lG2:G.le G2:=b2.le g1 (Nat.le_refl _)
  have oG2:=oG.le lG2
  have hG2:=h.le (AHeap.le_trans lG lG2)
  unfold F66.B26
  refine ldI_own oG2 rfl (ld1_own oG2 rfl (ldI_own p2 rfl (ldI_own oG2 rfl (ld1_own oG2 rfl (ldI_own p2 rfl (every_ok hG2 (by omega) fun G3 l3=>asI_mk ⟨l3,?_⟩))))))
  have hev:2^es.length-1<2^64:=by omega
  rw [bits_andnot hev hT64]
  obtain ⟨X,hX⟩:∃ X,X=(2^es.length-1)&&&(2^64-(T+1)):=⟨_,rfl⟩
  have hXb:∀ j,X.testBit j=(decide (j<es.length)&&!T.testBit j):=fun j=>by rw [hX,andnot_bit hev hT64,Nat.testBit_two_pow_sub_one]
  have hX64:X<2^64:=by rw [hX];exact Nat.lt_of_le_of_lt Nat.and_le_left hev
  rw [← hX]
  refine distancesA_ok (hG2.le l3) hg hX64 han fun w D G4 l4 fD lD hD=>⟨l4,?_⟩
  have hread:=hD b (by omega)
  rw [pAdj_same (q:=fun k=>T.testBit k) fun j hj=>by rw [hXb];simp [hj]] at hread
  have hgd:D.getD b 0=D.getD b (-1):=by
   have:b<D.length:=by omega
   simp [List.getD,this]
  refine fD.ints.rd (by omega) (by omega) ?_
  rw [Int.toNat_natCast,hgd]
  have l24:=AHeap.le_trans lG1 (AHeap.le_trans lG2 (AHeap.le_trans l3 l4))
  refine pif_cases (fun hb=>?_) fun hb=>?_
  ·have hno:¬ Rch (pAdj es fun k=>T.testBit k) a b:=fun hr=>by have:=hread.2 hr;have:=of_decide_eq_true hb;omega
   have pi:2^i<2^64:=Nat.pow_lt_pow_right (by decide) (by omega)
   unfold F66.B25
   refine ⟨by omega,?_⟩
   rw [one_shl (by omega) (by omega),Int.toNat_natCast,bits_or hT64 pi]
   unfold F66.B24
   rw [wrap_id (by omega) (by omega)]
   refine ⟨⟨rfl,rfl,rfl,rfl,l24,i+1,T|||2^i,by omega,rfl,by omega,hT.step hlt (fun j hj=>?_) fun a' b' hab'=>?_⟩,by simp;omega⟩
   ·rw [or_bit];unfold insB
    have:¬ i=j:=fun h=>hj h.symm
    simp [this]
   ·rw [hab] at hab'
    simp only [Prod.mk.injEq] at hab'
    obtain rfl:a=a':=by omega
    obtain rfl:b=b':=by omega
    rw [or_bit,insB_self]
    exact ⟨fun _=>hno,fun _=>rfl⟩
  ·have hyes:Rch (pAdj es fun k=>T.testBit k) a b:=hread.1 (by have:=of_decide_eq_false hb;omega)
   unfold F66.B24
   rw [wrap_id (by omega) (by omega)]
   refine ⟨⟨rfl,rfl,rfl,rfl,l24,i+1,T,by omega,rfl,by omega,hT.step hlt (fun j hj=>rfl) fun a' b' hab'=>?_⟩,by simp;omega⟩
   rw [hab] at hab'
   simp only [Prod.mk.injEq] at hab'
   obtain rfl:a=a':=by omega
   obtain rfl:b=b':=by omega
   exact ⟨fun ht=>by have:=hT.lt i ht;omega,fun hn=>absurd hyes hn⟩
 ·have hie:i=es.length:=by have:=of_decide_eq_false hb;omega
  subst hie
  have ht:=hT.forest
  have hTl:T<2^es.length:=hTm hT
  have hTlt:=hT.lt
  unfold F66.B22
  refine ld1_own oG rfl ((h.le lG).len ?_)
  unfold F66.L2
  refine ⟨fun x1 x3 x4 x40 x41 G=>H.length=x1∧(T:Int)=x3∧(es.length:Int)=x40∧H1.le G∧∃ (i:Nat) (os:List Nat),x41=i∧i≤es.length∧Fresh H1.length G x4 55 1 (LU os)∧Bas n es (fun j=>T.testBit j) i os∧∀ o∈os,o<2^64,fun _ _ _ _ x41 _=>es.length-x41.toNat,⟨rfl,rfl,rfl,lG1,0,[],rfl,by omega,.inl ⟨rfl,.inl rfl⟩,.nil,fun o ho=>by cases ho⟩,?_⟩
  clear lG1 lG oG hT hb
  rintro x1 x3 x4 x40 x41 G ⟨rfl,rfl,rfl,lG1,i,os,rfl,hi,hF,hB,ho64⟩
  have lG:=AHeap.le_trans l1 lG1
  have oG:=o1.le lG1
  unfold F66.B21
  refine pif_cases (fun hb=>?_) fun hb=>?_
  ·have hlt:i<es.length:=by have:=of_decide_eq_true hb;omega
   have hol:=hB.len
   unfold F66.B20 F66.B19
   refine has_ok hT64 (by omega) (asB_mk (pif_cases (fun hb=>?_) fun hb=>?_))
   ·rw [Int.toNat_natCast] at hb
    unfold F66.B3
    rw [wrap_id (by omega) (by omega)]
    exact ⟨⟨rfl,rfl,rfl,lG1,i+1,os,by omega,by omega,hF,.tree hB hb,ho64⟩,by simp;omega⟩
   ·rw [Int.toNat_natCast] at hb
    obtain ⟨a,b,hab,hne,han,hbn⟩:=hE.get i hlt
    -- an even set with this edge
    obtain ⟨Y,y1,y2⟩:=joined_set hE (ht.in' i hlt hb a b hab)
    have hYi:Y i=false:=by
     cases hy:Y i with
     | false=>rfl
     | true=>have:=(y1 i hy).1;rw [hb] at this;simp at this
    let Z:Nat→Bool:=fun j=>Y j ^^ decide (j=i)
    have hZi:Z i=true:=by simp [Z,hYi]
    have hZe:∀ x:Nat,degB es Z x%2=0:=fun x=>by
     rw [deg_xor,deg_one hlt hab hne]
     have:=y2 x
     omega
    have hZs:∀ j,Z j=true→T.testBit j=true∨j=i:=fun j hj=>by
     by_cases e:j=i
     ·exact .inr e
     ·simp only [Z,e,decide_false,Bool.xor_false] at hj
      have:=(y1 j hj).1
      rw [Bool.and_eq_true] at this
      exact .inl this.1
    have pi:2^i<2^64:=Nat.pow_lt_pow_right (by decide) (by omega)
    unfold F66.B18
    refine ⟨by omega,?_⟩
    rw [one_shl (by omega) (by omega),Int.toNat_natCast,bits_or hT64 pi]
    unfold F66.B17 F66.L5
    refine ⟨fun x1 x3 x4' x8 x9 x40 x41 G=>H.length=x1∧(T:Int)=x3∧x4=x4'∧(es.length:Int)=x40∧(i:Int)=x41∧H1.le G∧Fresh H1.length G x4 55 1 (LU os)∧∃ o:Nat,x8=(o:Int)∧o<2^64∧(∀ j,o.testBit j=true→j<es.length∧(T.testBit j=true∨j=i))∧(∀ j,Z j=true→o.testBit j=true)∧(x9=false→∀ w:Nat,(w:Int)<n→degB es (fun j=>o.testBit j) w≠1),
     fun _ _ _ x8 x9 _ _ _=>2*cn (fun j=>x8.toNat.testBit j) es.length+(if x9 then 1 else 0),⟨rfl,rfl,rfl,rfl,rfl,lG1,hF,T|||2^i,rfl,or_lt hT64 pi,fun j hj=>?_,fun j hj=>?_,fun h=>by cases h⟩,?_⟩
    ·rw [or_bit] at hj
     by_cases e:j=i
     ·exact ⟨by omega,.inr e⟩
     ·have hj:=insB_ne hj e
      exact ⟨hTlt j hj,.inl hj⟩
    ·rw [or_bit]
     rcases hZs j hj with h|rfl
     ·exact insB_of h
     ·exact insB_self _ _
    clear lG1 lG oG hF
    rintro x1 x3 x4' x8 x9 x40 x41 G ⟨rfl,rfl,rfl,rfl,rfl,lG1,hF,o,rfl,ho,os1,os2,os3⟩
    have lG:=AHeap.le_trans l1 lG1
    have oG:=o1.le lG1
    unfold F66.B16
    refine pif_cases (fun hx=>?_) fun hx=>?_
    ·subst hx
     unfold F66.B15 F66.B14
     refine ldI_own oG rfl ?_
     unfold F66.L6
     refine ⟨fun x1 x3 x4' x8 x9 x40 x41 x53 x54 G=>H.length=x1∧(T:Int)=x3∧x4=x4'∧(es.length:Int)=x40∧(i:Int)=x41∧n=x53∧H1.le G∧Fresh H1.length G x4 55 1 (LU os)∧∃ (w o':Nat),x54=w∧(w:Int)≤n∧x8=(o':Int)∧o'<2^64∧(∀ j,o'.testBit j=true→o.testBit j=true)∧(∀ j,Z j=true→o'.testBit j=true)∧((x9=false∧o'=o∧∀ w':Nat,w'<w→degB es (fun j=>o.testBit j) w'≠1)∨(x9=true∧cn (fun j=>o'.testBit j) es.length<cn (fun j=>o.testBit j) es.length)),
      fun _ _ _ _ _ _ _ _ x54 _=>(n-x54).toNat,⟨rfl,rfl,rfl,rfl,rfl,rfl,lG1,hF,0,o,rfl,by omega,rfl,ho,fun _ h=>h,os2,.inl ⟨rfl,rfl,fun w' h=>absurd h (by omega)⟩⟩,?_⟩
     clear lG1 lG oG hF
     rintro x1 x3 x4' x8 x9 x40 x41 x53 x54 G ⟨rfl,rfl,rfl,rfl,rfl,rfl,lG1,hF,w,o',rfl,hw,rfl,ho',hs1,hs2,hs3⟩
     have lG:=AHeap.le_trans l1 lG1
     have oG:=o1.le lG1
     unfold F66.B13
     refine pif_cases (fun hb'=>?_) fun hb'=>?_
     ·have hlt':=of_decide_eq_true hb'
      unfold F66.B12 F66.B11
      refine ldI_own oG rfl (ld1_own oG rfl (at_ok (h.le lG) (by omega) fun q H2 l2 f2=>setOf_ok f2.ints (by have:=hg.three (v:=w) (by omega) hlt';omega) (fun x hx=>by have:=at_range hx;omega) (asI_mk ?_)))
      have h64:setN (atL es w)<2^64:=setN_lt fun x hx=>by have:=at_range hx;omega
      rw [bits_and h64 ho']
      have hz:setN (atL es w)&&&o'<2^64:=Nat.lt_of_le_of_lt Nat.and_le_left h64
      have lG2:=AHeap.le_trans lG1 l2
      unfold F66.B10
      refine size_ok hz (asI_mk ?_)
      rw [popc_deg (by omega)]
      refine pif_cases (fun hd=>?_) fun hd=>?_
      ·have hd1:degB es (fun j=>o'.testBit j) w=1:=by have:=beq_iff_eq.1 hd;omega
       have hab':∀ j,(setN (atL es w)&&&o').testBit j=true↔(j<es.length∧on (es.getD j (0,0)) w=true∧o'.testBit j=true):=fun j=>by
        rw [Nat.testBit_and,setN_bit fun x hx=>(at_range hx).1,Bool.and_eq_true,decide_eq_true_iff,mem_atL]
        constructor
        ·rintro ⟨⟨i,hi,h1,h2⟩,h3⟩
         obtain rfl:j=i:=by omega
         exact ⟨h1,h2,h3⟩
        ·rintro ⟨h1,h2,h3⟩
         exact ⟨⟨j,rfl,h1,h2⟩,h3⟩
       unfold F66.B9
       rw [bits_andnot ho' hz]
       obtain ⟨o2,ho2⟩:∃ o2,o2=o'&&&(2^64-((setN (atL es w)&&&o')+1)):=⟨_,rfl⟩
       have hb2:∀ j,o2.testBit j=(o'.testBit j&&!(setN (atL es w)&&&o').testBit j):=fun j=>by rw [ho2,andnot_bit ho' hz]
       have ho2':o2<2^64:=by rw [ho2];exact Nat.lt_of_le_of_lt Nat.and_le_left ho'
       rw [← ho2]
       obtain ⟨j0,hj1,hj2,hj3⟩:=deg_some (es:=es) (p:=fun j=>o'.testBit j) (w:=(w:Int)) (by omega)
       have hsub2:∀ j,o2.testBit j=true→o'.testBit j=true:=fun j hj=>by rw [hb2,Bool.and_eq_true] at hj;exact hj.1
       have hcn:cn (fun j=>o2.testBit j) es.length<cn (fun j=>o'.testBit j) es.length:=cn_lt (i:=j0) (fun j _ hj=>hsub2 j hj) hj2 (by
        have:=(hab' j0).2 ⟨hj1,hj3,hj2⟩
        rw [hb2,this];simp) hj1
       have hle:cn (fun j=>o'.testBit j) es.length≤cn (fun j=>o.testBit j) es.length:=cn_le fun j _ hj=>hs1 j hj
       unfold F66.B8 F66.B7
       rw [wrap_id (by omega) (by omega)]
       refine ⟨⟨rfl,rfl,rfl,rfl,rfl,rfl,lG2,hF.le l2,w+1,o2,by omega,by omega,rfl,ho2',fun j hj=>hs1 j (hsub2 j hj),fun j hj=>?_,.inr ⟨rfl,by omega⟩⟩,by show (n-((w:Int)+1)).toNat<(n-(w:Int)).toNat;omega⟩
       rw [hb2,hs2 j hj,Bool.true_and,Bool.not_eq_true',Bool.eq_false_iff]
       intro hbad
       obtain ⟨g1,g2,g3⟩:=(hab' j).1 hbad
       have e1:=degB_pos (es:=es) (p:=Z) (x:=w) g1 hj g2
       have e2:=hZe w
       have e3:=deg_le (es:=es) (p:=Z) (q:=fun j=>o'.testBit j) (w:=(w:Int)) fun j _ hj=>hs2 j hj
       omega
      ·have hd1:degB es (fun j=>o'.testBit j) w≠1:=by
        intro h1;rw [h1] at hd;simp at hd
       unfold F66.B7
       rw [wrap_id (by omega) (by omega)]
       refine ⟨⟨rfl,rfl,rfl,rfl,rfl,rfl,lG2,hF.le l2,w+1,o',by omega,by omega,rfl,ho',hs1,hs2,hs3.imp (fun ⟨h1,h2,h3⟩=>⟨h1,h2,fun w' hw'=>?_⟩) id⟩,by show (n-((w:Int)+1)).toNat<(n-(w:Int)).toNat;omega⟩
       by_cases e:w'=w
       ·subst e;rw [← h2];exact hd1
       ·exact h3 w' (by omega)
     ·have hwn:=of_decide_eq_false hb'
      refine ⟨⟨rfl,rfl,rfl,rfl,rfl,lG1,hF,o',rfl,ho',fun j hj=>os1 j (hs1 j hj),hs2,fun hx w' hw'=>?_⟩,?_⟩
      ·rcases hs3 with ⟨_,h2,h3⟩|⟨h1,_⟩
       ·rw [h2];exact h3 w' (by omega)
       ·rw [hx] at h1;cases h1
      ·show 2*cn (fun j=>((o':Int).toNat).testBit j) es.length+(if x9 then 1 else 0)<2*cn (fun j=>((o:Int).toNat).testBit j) es.length+1
       rw [Int.toNat_natCast,Int.toNat_natCast]
       rcases hs3 with ⟨h1,h2,_⟩|⟨h1,h2⟩
       ·rw [h1,h2];simp
       ·rw [h1];simp;omega
    ·subst hx
     have h3le:∀ w:Nat,degB es (fun j=>o.testBit j) w≤3:=fun w=>by
      by_cases hw:(w:Int)<n
      ·exact degB_le_three hg hw
      ·rw [deg_out hE hw];omega
     have hok:BasOk n es (fun j=>T.testBit j) i o:=⟨os1,os2 i hZi,pruned_even hE ht h3le (i:=i) (fun j _ hj=>(os1 j hj).2) (os3 rfl)⟩
     unfold F66.B4
     refine hF.sl.pushN E_set (by decide) (by exact lG1.1) (n:=1) (ys:=[.int .u64 (o:Nat)]) rfl rfl (by simp;omega) (by simp) fun v' G6 k6 _ _ f6=>?_
     unfold F66.B3
     rw [wrap_id (by omega) (by omega)]
     refine ⟨⟨rfl,rfl,rfl,k6.le lG1 (Nat.le_refl _),i+1,os++[o],by omega,by omega,by simpa using f6,.own hB hb hok,fun x hx=>?_⟩,by simp;omega⟩
     rcases List.mem_append.1 hx with hx|hx
     ·exact ho64 x hx
     ·rw [List.mem_singleton.1 hx];exact ho
  ·have hie:i=es.length:=by have:=of_decide_eq_false hb;omega
   subst hie
   unfold F66.B1
   exact k _ os _ G lG (hF.less l1.1) ht hB ho64
end Go.Proofs
namespace Go.Proofs
open Go.Abs

variable {H G:AHeap} {v u f:Value} {l m c D:List Int} {es fs:List (Int × Int)} {K:Value→AHeap→Prop} {n:Int}

noncomputable def evB (n:Int) (es:List (Int × Int)) (l:List Int):Bool:=if edCode n es l=0 then decide (EvenS n es (bitB l)) else false
theorem specIsEven_ok (h:Edges H v es) (hl:es.length≤1048576) (hc:Ints H u l) (hcl:l.length≤1048576)
 (k:∀ G,H.le G→K (.tuple ⟨[.bool (evB n es l),.int .i64 (edCode n es l)]⟩) G):AC Tryz.prog T0 21 [.agg ⟨[.int .i64 n,v]⟩,u] H K:=by
 apply F21.ac
 unfold F21.B5
 refine newK_f (all_iv (edges_one' h)) fun H1 l1 n1 o1=>?_
 unfold F21.B4
 refine ldI_own o1 rfl (ld1_own o1 rfl (l03Edges_ok (h.le l1) hl (hc.le l1) hcl fun H2 l2=>asI_mk ?_))
 have l12:=AHeap.le_trans l1 l2
 rw [show (if IsG n es then (if IsS l es.length then 0 else 2) else 1:Int)=edCode n es l from rfl]
 unfold F21.B3
 unfold evB at k
 refine pif_cases (fun hs=>?_) fun hs=>?_
 ·unfold F21.B2
  have k:=k _ l12
  rw [if_neg (bne_iff_ne.1 hs)] at k;exact k
 ·have h0:edCode n es l=0:=bne_eq_false_iff_eq.1 hs
  obtain ⟨hg,hS⟩:=edCode_zero h0
  unfold F21.B1
  refine ldI_own (o1.le l2) rfl (ld1_own (o1.le l2) rfl (l07Even_ok (h.le l12) hg (hc.le l12) hS fun H3 l3=>asB_mk ?_))
  have k:=k _ (AHeap.le_trans l12 l3)
  rw [if_pos h0,h0] at k;exact k
theorem implIsEven_ok (h:Edges H v es) (hl:es.length≤1048576) (hc:Ints H u l) (hcl:l.length≤1048576)
 (k:∀ G,H.le G→K (.tuple ⟨[.bool (evB n es l),.int .i64 (edCode n es l)]⟩) G):AC Tryz.prog T0 15 [.agg ⟨[.int .i64 n,v]⟩,u] H K:=by
 apply F15.ac
 unfold F15.B5
 refine newK_f (all_iv (edges_one' h)) fun H1 l1 n1 o1=>?_
 unfold F15.B4
 refine ldI_own o1 rfl (ld1_own o1 rfl (edgesCode_ok (h.le l1) hl (hc.le l1) hcl fun H2 l2=>asI_mk ?_))
 have l12:=AHeap.le_trans l1 l2
 rw [show (if IsG n es then (if IsS l es.length then 0 else 2) else 1:Int)=edCode n es l from rfl]
 unfold F15.B3
 unfold evB at k
 refine pif_cases (fun hs=>?_) fun hs=>?_
 ·unfold F15.B2
  have k:=k _ l12
  rw [if_neg (bne_iff_ne.1 hs)] at k;exact k
 ·have h0:edCode n es l=0:=bne_eq_false_iff_eq.1 hs
  obtain ⟨hg,hS⟩:=edCode_zero h0
  have h30:es.length≤30:=by have:=hg.ed.len;have:=hg.ed.hi;omega
  unfold F15.B1
  refine ldI_own (o1.le l2) rfl (ld1_own (o1.le l2) rfl (setOf_ok (hc.le l12) (by omega) (fun x hx=>by have:=hS.range x hx;omega) (asI_mk ⟨AHeap.le_refl _,isEven_ok (h.le l12) hg (set_lt hS (by omega)) fun H3 l3=>asB_mk ?_⟩)))
  have k:=k _ (AHeap.le_trans l12 l3)
  rw [if_pos h0,h0] at k;exact k
def GirP (n:Int) (es:List (Int × Int)) (d:Int):Prop:=(∃ C∈cyRows n es,(C.length:Int)=d)∧∀ C∈cyRows n es,d≤(C.length:Int)
theorem pAdj_but {i:Nat}:(pAdj es fun j=>!(2^i:Nat).testBit j)=pAdj es (butE i):=pAdj_same fun j _=>by
 unfold butE
 rw [Nat.testBit_two_pow]
 congr 1
 rw [decide_eq_decide]
 exact eq_comm
theorem girth_ok (h:Edges H v es) (hl:es.length≤1048576) (k:∀ d c G,H.le G→(IsG n es→c=0∧GirP n es d)→K (.tuple ⟨[.int .i64 d,.int .i64 c]⟩) G) :
 AC Tryz.prog T0 19 [.agg ⟨[.int .i64 n,v]⟩] H K:=by
 apply F19.ac
 unfold F19.B14
 refine newK_f (all_iv (edges_one' h)) fun H1 l1 n1 o1=>?_
 unfold F19.B13
 refine ldI_own o1 rfl (ld1_own o1 rfl (graphCode_ok (h.le l1) hl fun H2 l2=>asI_mk ?_))
 have l12:=AHeap.le_trans l1 l2
 have o2:=o1.le l2
 unfold F19.B12
 by_cases hg:¬ IsG n es
 ·rw [if_neg hg]
  refine pif_t rfl ?_
  unfold F19.B11
  exact k _ _ _ l12 fun hg'=>absurd hg' hg
 have hg:=Classical.not_not.1 hg
 rw [if_pos hg,if_pos rfl]
 refine pif_f rfl ?_
 have n0:=hg.ed.lo;have n1':=hg.ed.hi
 have h30:es.length≤30:=by have:=hg.ed.len;omega
 unfold F19.B10
 refine ldI_own o2 rfl ?_
 rw [wrap_id (by omega) (by omega)]
 unfold F19.B9
 refine ld1_own o2 rfl ((h.le l12).len ?_)
 unfold F19.L2
 refine ⟨fun x1 x5 x18 x19 x20 G=>H.length=x1∧v=x18∧(es.length:Int)=x19∧H2.le G∧∃ i:Nat,x20=i∧i≤es.length∧0≤x5∧x5≤n+1∧(x5=n+1∨∃ C∈cyRows n es,(C.length:Int)≤x5)∧∀ j<i,∀ q,Wk (pAdj es (butE j)) (eaN es j) q (ebN es j)→x5≤(q:Int)+1,
  fun _ _ _ _ x20 _=>es.length-x20.toNat,⟨rfl,rfl,rfl,AHeap.le_refl _,0,rfl,by omega,by omega,by omega,.inl rfl,fun j hj=>absurd hj (by omega)⟩,?_⟩
 rintro x1 x5 x18 x19 x20 G ⟨rfl,rfl,rfl,lG,i,rfl,hi,d0,d1,hC,hW⟩
 have l0G:=AHeap.le_trans l12 lG
 have oG:=o2.le lG
 unfold F19.B8
 refine pif_cases (fun hb=>?_) fun hb=>?_
 ·have hlt:i<es.length:=by have:=of_decide_eq_true hb;omega
  obtain ⟨e1,e2,e3,e4,e5⟩:=hg.ed.ends es[i] (List.getElem_mem hlt)
  rw [← getD_of (d:=(0,0)) hlt] at e1 e2 e3 e4 e5
  have ea:(es.getD i (0,0)).1=(eaN es i:Nat):=by unfold eaN;omega
  have eb:(es.getD i (0,0)).2=(ebN es i:Nat):=by unfold ebN;omega
  obtain ⟨b,o,hk,c1,c2⟩:=(h.le l0G).idx (i:=(i:Int)) (by omega) (by omega)
  rw [Int.toNat_natCast] at c1 c2
  unfold F19.B7
  refine hk _ (ldI_mk c1 (ldI_mk c2 (newK_f rfl fun G4 l4 n4 o4=>stK_f (new:=[.int .i64 (es.getD i (0,0)).1,.int .i64 (es.getD i (0,0)).2]) o4 (by simp) (by simp [Value.oneCell']) rfl fun G5 b5 o5=>?_)))
  have l5:G.le G5:=b5.le l4 (Nat.le_refl _)
  have o15:=oG.le l5
  have l05:=AHeap.le_trans l0G l5
  unfold F19.B6
  refine ldI_own o15 rfl (ld1_own o15 rfl (ldI_own o5 rfl ⟨by omega,ldI_own o5 rfl ?_⟩))
  rw [one_shl (by omega) (by omega),Int.toNat_natCast,ea]
  refine distances2_ok (h.le l05) hg (Nat.pow_lt_pow_right (by omega) (by omega)) (by omega) fun v' D G6 l6 f6 hD hr hDs hhi=>⟨l6,?_⟩
  rw [pAdj_but] at hDs
  refine f6.ints.rd (by omega) (by omega) ?_
  rw [show (es.getD i (0,0)).2.toNat=ebN es i from rfl]
  have hget:D.getD (ebN es i) 0=D.getD (ebN es i) (-1):=by
   have:ebN es i<D.length:=by omega
   rw [getD_of this,getD_of this]
  rw [hget]
  have next:∀ x,0≤x→x≤n+1→(x=n+1∨∃ C∈cyRows n es,(C.length:Int)≤x)→(∀ j<i+1,∀ q,Wk (pAdj es (butE j)) (eaN es j) q (ebN es j)→x≤(q:Int)+1)→
   F19.B3 K (fun y1 y5 y18 y19 y20 G'=>(H.length=y1∧v=y18∧(es.length:Int)=y19∧H2.le G'∧∃ i:Nat,y20=i∧i≤es.length∧0≤y5∧y5≤n+1∧(y5=n+1∨∃ C∈cyRows n es,(C.length:Int)≤y5)∧∀ j<i,∀ q,Wk (pAdj es (butE j)) (eaN es j) q (ebN es j)→y5≤(q:Int)+1)∧es.length-y20.toNat<es.length-((i:Nat):Int).toNat) H.length x v (es.length:Int) (i:Int) G6:=by
   intro x h1 h2 h3 h4
   unfold F19.B3
   rw [wrap_id (by omega) (by omega)]
   exact ⟨⟨rfl,rfl,rfl,AHeap.le_trans lG (AHeap.le_trans l5 l6),i+1,by omega,by omega,h1,h2,h3,h4⟩,by simp;omega⟩
  unfold F19.B5
  refine pif_cases (fun hs=>?_) fun hs=>?_
  ·have hd:=of_decide_eq_true hs
   obtain ⟨q,q1,q2⟩:=hDs.wk (ebN es i) (decide_eq_true (by omega))
   obtain ⟨C,C1,C2⟩:=far_cycle hg hlt q2
   have hle:∀ q',Wk (pAdj es (butE i)) (eaN es i) q' (ebN es i)→(q:Int)≤q':=fun q' w=>by have:=(hDs.least w).2;omega
   have hqn:=hhi (ebN es i)
   unfold F19.B4
   rw [q1,wrap_id (by omega) (by omega)]
   split
   ·next hlt'=>
    refine next _ (by omega) (by omega) (.inr ⟨C,C1,by omega⟩) fun j hj q' w=>?_
    by_cases e:j=i
    ·subst e;have:=hle q' w;omega
    ·have:=hW j (by omega) q' w;omega
   ·next hlt'=>
    refine next _ d0 d1 hC fun j hj q' w=>?_
    by_cases e:j=i
    ·subst e;have:=hle q' w;omega
    ·exact hW j (by omega) q' w
  ·have hd:=of_decide_eq_false hs
   refine next _ d0 d1 hC fun j hj q' w=>?_
   by_cases e:j=i
   ·subst e
    have:=of_decide_eq_true (hDs.least w).1
    omega
   ·exact hW j (by omega) q' w
 ·have hie:i=es.length:=by have:=of_decide_eq_false hb;omega
  subst hie
  unfold F19.B1
  have hall:∀ C∈cyRows n es,x5≤(C.length:Int):=fun C hC'=>by
   obtain ⟨e,q,h1,h2,h3⟩:=cycle_far hg hC'
   have:=hW e h1 q h2;omega
  refine k _ _ _ l0G fun _=>⟨rfl,?_,hall⟩
  rcases hC with rfl|⟨C,h1,h2⟩
  ·obtain ⟨C,h1⟩:=some_cycle hg
   have:=hall C h1
   have:=cycle_le hg h1
   omega
  ·exact ⟨C,h1,by have:=hall C h1;omega⟩
end Go.Proofs
namespace Go.Proofs
open Go.Abs

variable {H G:AHeap} {v u f:Value} {l m c D:List Int} {es fs:List (Int × Int)} {K:Value→AHeap→Prop} {n:Int}

theorem likeInts_ok (h:Ints H v l) (g:Ints H u l) (hl:l.length≤1000000000) (k:K (.bool true) H):AC Tryz.prog T0 12 [v,u] H K:=by
 apply F12.ac
 unfold F12.B10 F12.B9
 refine h.len (g.len (pif_f (by simp) ?_))
 unfold F12.B7 F12.L2
 refine ⟨fun x0 x1 x5 G=>v=x0∧u=x1∧H=G∧∃ i:Nat,x5=i∧i≤l.length,fun _ _ x5 _=>l.length-x5.toNat,⟨rfl,rfl,rfl,0,rfl,by omega⟩,?_⟩
 rintro x0 x1 x5 G ⟨rfl,rfl,rfl,i,rfl,hi⟩
 unfold F12.B6
 refine h.len (pif_cases (fun hb=>?_) fun hb=>?_)
 ·have hlt:i<l.length:=by have:=of_decide_eq_true hb;omega
  unfold F12.B5
  refine h.rd (by omega) (by omega) (g.rd (by omega) (by omega) (pif_f (by simp) ?_))
  unfold F12.B3
  rw [wrap_id (by omega) (by omega)]
  exact ⟨⟨rfl,rfl,rfl,i+1,by omega,by omega⟩,by simp;omega⟩
 ·unfold F12.B1
  exact k
theorem rows5_ok {A A':Nat→Prop} {B B':Nat} {ls:List (List Int)} (h:RowsF A B H v ls) (g:RowsF A' B' H u ls) (hl:ls.length≤1000000000) (hr:∀ l∈ls,l.length≤1000000000) (k:K (.bool true) H):AC Tryz.prog T0 9 [v,u] H K:=by
 apply F9.ac
 unfold F9.B10 F9.B9
 refine h.len (g.len (pif_f (by simp) ?_))
 unfold F9.B7 F9.L2
 refine ⟨fun x0 x1 x5 G=>v=x0∧u=x1∧H=G∧∃ i:Nat,x5=i∧i≤ls.length,fun _ _ x5 _=>ls.length-x5.toNat,⟨rfl,rfl,rfl,0,rfl,by omega⟩,?_⟩
 rintro x0 x1 x5 G ⟨rfl,rfl,rfl,i,rfl,hi⟩
 unfold F9.B6
 refine h.len (pif_cases (fun hb=>?_) fun hb=>?_)
 ·have hlt:i<ls.length:=by have:=of_decide_eq_true hb;omega
  have hm:(ls.getD i []).length≤1000000000:=by rw [getD_of hlt];exact hr _ (List.getElem_mem hlt)
  unfold F9.B5
  refine h.row hlt fun w fw=>g.row hlt fun y fy=>likeInts_ok fw.ints fy.ints hm (asB_mk (pif_f (by simp) ?_))
  unfold F9.B3
  rw [wrap_id (by omega) (by omega)]
  exact ⟨⟨rfl,rfl,rfl,i+1,by omega,by omega⟩,by simp;omega⟩
 ·unfold F9.B1
  exact k
theorem big_ok (h:Byts H v l) (k:K (.bool (decide ((l.length:Int)>4096))) H):AC Tryz.prog T0 5 [v] H K:=by
 apply F5.ac
 unfold F5.B2 F5.B1
 exact h.len k
end Go.Proofs
namespace Go.Proofs
open Go.Abs

variable {H G B:AHeap} {v u f:Value} {l m S:List Int} {K:Value→AHeap→Prop}

theorem LI_putN (L:List Int) (i:Nat) (x:Int):(LI L).set i (.int .i64 x)=LI (L.set i x):=List.map_set.symm
theorem l07Sort_ok (h:Ints H v l) (hl:l.length≤1000000) (k:∀ v' G,H.le G→Fresh H.length G v' 2 1 (LI (srtI l))→K v' G):AC Tryz.prog T0 147 [v] H K:=by
 apply F147.ac
 unfold F147.B14 F147.B13
 refine newK_f rfl fun H1 l1 n1 o1=>?_
 unfold F147.B12 F147.L2
 refine ⟨fun x0 x3 x4 G=>v=x0∧H.le G∧∃ (i bo:Nat) (S:List Int),x4=i∧i≤l.length∧H.length≤bo∧x3=.slice (some ⟨bo,0,none⟩) S.length (S.length+1)∧Own G bo 2 (LI S)∧S.Pairwise (fun a b=>a≤b)∧S.Perm (l.take i),
  fun _ _ x4 _=>l.length-x4.toNat,⟨rfl,l1,0,H.length,[],rfl,by omega,Nat.le_refl _,rfl,o1,List.Pairwise.nil,by simp⟩,?_⟩
 rintro x0 x3 x4 G ⟨rfl,lG,i,bo,S,rfl,hi,hbo,rfl,oS,sS,pS⟩
 have hSl:S.length=i:=by have:=pS.length_eq;rw [List.length_take] at this;omega
 unfold F147.B11
 refine (h.le lG).len (pif_cases (fun hb=>?_) fun hb=>?_)
 rotate_left
 ·have hil:i=l.length:=by have:=of_decide_eq_false hb;omega
  subst hil
  rw [List.take_length] at pS
  unfold F147.B1
  refine k _ G lG (.inr ⟨bo,S.length,hbo,rfl,?_,?_⟩)
  ·rw [← srtI_eq sS pS];exact oS
  ·rw [← srtI_eq sS pS];simp
 have hil:i<l.length:=by have:=of_decide_eq_true hb;omega
 have hbl:=oS.lt
 obtain ⟨e,he⟩:∃ e,e=l.getD i 0:=⟨_,rfl⟩
 unfold F147.B10
 refine lenK_of ?_
 unfold F147.B9
 refine (h.le lG).rd (by omega) (by omega) ?_
 rw [Int.toNat_natCast,← he]
 refine Sl.pushN (m:=H.length) E_int (by decide) (Fresh.sl (.inr ⟨bo,S.length,hbo,rfl,oS,by simp⟩)) lG.1 (n:=1) (ys:=[.int .i64 e]) rfl rfl (by simp;omega) (by simp) fun v' G3 k3 ot3 nb3 f3=>?_
 have f3:Fresh H.length G3 v' 2 1 (LI (S++[e])):=by simpa using f3
 obtain ⟨b3,hb3,rfl,o3⟩:∃ b,H.length≤b∧v'=.slice (some ⟨b,0,none⟩) (S.length+1) (S.length+1+1)∧Own G3 b 2 (LI (S++[e])):=by
  rcases f3 with ⟨h0,_⟩|⟨b,n,hb,rfl,g3,g4⟩
  ·simp at h0
  ·have hn:n=S.length+1:=by simpa using g4.symm
   subst hn
   exact ⟨b,hb,rfl,g3⟩
 have lG3:H.le G3:=k3.le lG (Nat.le_refl _)
 unfold F147.L5
 refine ⟨fun x0 x3 x4 x5 G'=>v=x0∧.slice (some ⟨b3,0,none⟩) (S.length+1) (S.length+1+1)=x3∧(i:Int)=x4∧H.le G'∧∃ (j:Nat) (g:Int),x5=j∧j≤S.length∧Own G' b3 2 (LI (S.take j++([g]++S.drop j)))∧∀ q,j≤q→q<S.length→e<S.getD q 0,
  fun _ _ _ x5 _=>x5.toNat,⟨rfl,rfl,rfl,lG3,S.length,e,rfl,Nat.le_refl _,by rw [List.take_length,List.drop_length,List.append_nil];exact o3,fun q h1 h2=>by omega⟩,?_⟩
 clear o3 f3 ot3 nb3 lG3 k3
 rintro x0 x3 x4 x5 G' ⟨rfl,rfl,rfl,lG',j,g,rfl,hj,oj,hgt⟩
 obtain ⟨T,hT⟩:∃ T,T=S.take j++([g]++S.drop j):=⟨_,rfl⟩
 have hTl:T.length=S.length+1:=by rw [hT];simp [Nat.min_eq_left hj];omega
 have hTj:∀ x,T.set j x=S.take j++([x]++S.drop j):=fun x=>by
  rw [hT,List.set_append_right _ _ (by simp;omega)]
  simp [Nat.min_eq_left hj]
 rw [← hT] at oj
 have next:(j=0∨S.getD (j-1) 0≤e)→F147.B4 K (fun z0 z3 z4 G''=>(v=z0∧H.le G''∧∃ (i bo:Nat) (S:List Int),z4=i∧i≤l.length∧H.length≤bo∧z3=.slice (some ⟨bo,0,none⟩) S.length (S.length+1)∧Own G'' bo 2 (LI S)∧S.Pairwise (fun a b=>a≤b)∧S.Perm (l.take i))∧l.length-z4.toNat<l.length-(i:Int).toNat) v (.slice (some ⟨b3,0,none⟩) (S.length+1) (S.length+1+1)) i j G':=by
  intro hst
  unfold F147.B4
  refine (h.le lG').rd (by omega) (by omega) ?_
  rw [Int.toNat_natCast,← he]
  refine own_idx (by omega) (by omega) (stK_1 oj (by simp;omega) rfl fun G5 b5 o5=>?_)
  rw [Int.toNat_natCast,LI_putN,hTj] at o5
  unfold F147.B3
  rw [wrap_id (by omega) (by omega)]
  have hlen:(S.take j++([e]++S.drop j)).length=S.length+1:=by simp [Nat.min_eq_left hj];omega
  refine ⟨⟨rfl,b5.le lG' hb3,i+1,b3,_,by omega,by omega,hb3,by rw [hlen],o5,insI_sorted sS hj hgt hst,insI_perm.trans ?_⟩,by omega⟩
  rw [List.take_succ_eq_append_getElem hil,he,getD_of hil]
  exact pS.append_right _
 unfold F147.B8
 refine pif_cases (fun hb=>?_) fun hb=>next (.inl (by have:=of_decide_eq_false hb;omega))
 have hj0:0<j:=by have:=of_decide_eq_true hb;omega
 have hT1:T.getD (j-1) 0=S.getD (j-1) 0:=by
  rw [hT]
  simp [List.getD,List.getElem?_append_left (show j-1<(S.take j).length by simp;omega),List.getElem?_take_of_lt (show j-1<j by omega)]
 have w1:IntKind.i64.wrap ((j:Int)-1)=((j-1:Nat):Int):=by rw [wrap_id (by omega) (by omega)];omega
 have rdT:(LI T)[((j-1:Nat):Int).toNat]?=some (.int .i64 (S.getD (j-1) 0)):=by
  rw [Int.toNat_natCast,List.getElem?_map,List.getElem?_eq_getElem (by omega),← hT1,getD_of (by omega)];rfl
 rw [w1]
 refine own_idx (by omega) (by omega) (ldI_own oj rdT ((h.le lG').rd (by omega) (by omega) ?_))
 rw [Int.toNat_natCast,← he]
 refine pif_cases (fun hq=>?_) fun hq=>next (.inr (by have:=of_decide_eq_false hq;omega))
 have hlt:e<S.getD (j-1) 0:=by have:=of_decide_eq_true hq;omega
 unfold F147.B7
 rw [w1]
 refine own_idx (by omega) (by omega) (ldI_own oj rdT (own_idx (by omega) (by omega) (stK_1 oj (by simp;omega) rfl fun G6 b6 o6=>?_)))
 rw [Int.toNat_natCast,LI_putN,hTj] at o6
 unfold F147.B6
 rw [w1]
 refine ⟨⟨rfl,rfl,rfl,b6.le lG' hb3,j-1,S.getD (j-1) 0,rfl,by omega,?_,fun q h1 h2=>?_⟩,?_⟩
 ·have e1:S.take (j-1)++([S.getD (j-1) 0]++S.drop (j-1))=S.take j++([S.getD (j-1) 0]++S.drop j):=by
   obtain ⟨j',rfl⟩:∃ j',j=j'+1:=⟨j-1,by omega⟩
   rw [Nat.add_sub_cancel,getD_of (show j'<S.length by omega),List.drop_eq_getElem_cons (show j'<S.length by omega),List.take_succ_eq_append_getElem (show j'<S.length by omega),List.append_assoc]
   rfl
  rw [e1];exact o6
 ·by_cases e2:q=j-1
  ·subst e2;exact hlt
  ·exact hgt q (by omega) h2
 ·show ((j-1:Nat):Int).toNat<((j:Nat):Int).toNat
  omega
end Go.Proofs
namespace Go.Proofs
open Go.Abs

variable {H G:AHeap} {v u f w:Value} {l m c:List Int} {es fs:List (Int × Int)} {K:Value→AHeap→Prop} {A:Nat→Prop} {B C:Nat} {ls ms:List (List Int)}

theorem RowsF.app (h:RowsF A B H v ls) (g:RowsF (fun b=>B≤b) C H w ms) (hB:B≤H.length) (hC:C≤H.length) (hA:∀ b,B≤b→A b) (hs:ls.length+ms.length≤4294967296)
 (k:∀ v' G,Oth v H G→H.length≤G.length→RowsF A G.length G v' (ls++ms)→K v' G):apK T0 27 H v w K:=by
 obtain ⟨vs,h1,h2,h3,h4⟩:=h
 obtain ⟨ws,g1,g2,g3,g4⟩:=g
 refine h1.sl.app E_row (by decide) (Nat.zero_le _) (fresh_cells g1 (by decide) (n:=ms.length) (by omega)) (by omega) (fun h0=>?_) fun v' G k1 ot nb f'=>k v' G ot k1.len ?_
 ·have:ms=[]:=List.length_eq_zero_iff.1 (by rw [← g2,h0];rfl)
  subst this
  rw [List.append_nil] at k
  exact k v H (fun _ _ _ h=>h) (Nat.le_refl _) ((show RowsF A B H v ls from ⟨vs,h1,h2,h3,h4⟩).mono (fun _ h=>h) hB)
 ·refine ⟨vs++ws,f',by simp [h2,g2],fun b hb=>⟨hA b (by have:=nb b hb;omega),(f'.bk_lt hb).2⟩,fun i hi=>?_⟩
  rw [List.length_append] at hi
  by_cases e:i<ls.length
  ·obtain ⟨w',q1,q2,q3⟩:=h4 i e
   refine ⟨w',by rw [List.getElem?_append_left (by omega)];exact q1,?_,fun b hb=>?_⟩
   ·rw [show (ls++ms).getD i []=ls.getD i [] by simp [List.getD,List.getElem?_append_left e]]
    exact fresh_oth q2 fun b o hb ho=>ot b o (q3 b hb).2.2.1 ho
   ·obtain ⟨r1,r2,r3,r4⟩:=q3 b hb
    refine ⟨r1,by have:=k1.len;omega,fun hv=>by have:=nb b hv;omega,fun j w2 hj hw2=>r4 j w2 hj ?_⟩
    rwa [List.getElem?_append_left (by omega)] at hw2
  ·obtain ⟨j,rfl⟩:∃ j,i=ls.length+j:=⟨i-ls.length,by omega⟩
   obtain ⟨w',q1,q2,q3⟩:=g4 j (by omega)
   refine ⟨w',by rw [List.getElem?_append_right (by omega),h2,Nat.add_sub_cancel_left];exact q1,?_,fun b hb=>?_⟩
   ·rw [show (ls++ms).getD (ls.length+j) []=ms.getD j [] by simp [List.getD,List.getElem?_append_right]]
    exact fresh_oth q2 fun b o hb ho=>ot b o (fun hv=>by have:=(h3 b hv).2;have:B≤b:=(q3 b hb).1;omega) ho
   ·obtain ⟨r1,r2,r3,r4⟩:=q3 b hb
    refine ⟨hA b r1,by have:=k1.len;omega,fun hv=>by have:=nb b hv;omega,fun j' w2 hj hw2 hw3=>?_⟩
    by_cases e2:j'<ls.length
    ·rw [List.getElem?_append_left (by omega)] at hw2
     obtain ⟨w4,s1,_,s3⟩:=h4 j' e2
     rw [hw2] at s1;cases s1
     have:=(s3 b hw3).2.1
     have:B≤b:=r1
     omega
    ·rw [List.getElem?_append_right (by omega)] at hw2
     exact r4 (j'-vs.length) w2 (by omega) hw2 hw3
end Go.Proofs
namespace Go.Proofs
open Go.Abs

variable {H G:AHeap} {v u f w:Value} {l m:List Int} {es fs:List (Int × Int)} {K:Value→AHeap→Prop} {n:Int} {e en:Nat}

theorem flat_len {α β:Type} {g:α→List β} {k:Nat}:∀ {l:List α},(∀ a∈l,(g a).length≤k)→(l.flatMap g).length≤l.length*k
 | [],_=>by simp
 | a::l,h=>by
  have h1:=h a (by simp)
  have h2:=flat_len (l:=l) fun b hb=>h b (by simp [hb])
  rw [List.flatMap_cons,List.length_append,List.length_cons,Nat.add_mul];omega
def stepW (es:List (Int × Int)) (e en f a:Nat) (M:Nat→Bool) (i:Int):List (List Int):=if i≤(e:Int)∨M (oe es i.toNat a)=true then [] else (pwL es e en f (oe es i.toNat a) (insB M (oe es i.toNat a))).map (i::·)
theorem pwL_step {f a:Nat} {M:Nat→Bool} (ha:a≠en):pwL es e en (f+1) a M=(atL es a).flatMap (stepW es e en f a M):=by rw [pwL,if_neg ha];rfl
theorem atL_short (hg:IsG n es) (a:Nat):(atL es a).length≤3:=by
 by_cases h:(a:Int)<n
 ·rw [hg.three (by omega) h];exact Nat.le_refl _
 ·have:degB es (fun _=>true) a=0:=deg_out hg.endsIn h
  have e:(atL es (a:Int)).length=degB es (fun _=>true) a:=by unfold atL atTo degB filtB;simp
  omega
theorem pw_len (hg:IsG n es):∀ {f a:Nat} {M:Nat→Bool},(pwL es e en f a M).length≤3^f
 | 0,a,M=>by simp [pwL]
 | f+1,a,M=>by
  by_cases ha:a=en
  ·rw [pwL,if_pos ha];have:=Nat.pow_le_pow_right (n:=3) (by decide) (Nat.zero_le (f+1));simp at this ⊢;omega
  ·rw [pwL_step ha]
   have h1:=flat_len (l:=atL es a) (g:=stepW es e en f a M) (k:=3^f) fun i _=>by
    unfold stepW
    split
    ·simp
    ·rw [List.length_map];exact pw_len hg
   have h2:=Nat.mul_le_mul_right (3^f) (atL_short hg a)
   rw [Nat.pow_succ];omega
theorem rows_one {m0:Nat} {x:Value} (h:Fresh m0 H x 2 1 (LI l)) (hm:m0≤H.length) (k:∀ G,H.le G→RowsF (fun b=>m0≤b) G.length G (.slice (some ⟨H.length,0,none⟩) 1 (1+1)) [l]→K (.slice (some ⟨H.length,0,none⟩) 1 (1+1)) G) :
 pif x.oneCell' (newK H [x] 27 (fun b4 H5=>K (.slice (some ⟨b4,0,none⟩) 1 (1+1)) H5)) False:=by
 have hx:=ints_one h.ints
 refine pif_t hx (newK_f (by simp [hx]) fun G lG nG o=>k G lG ⟨[x],.inr ⟨_,1,Nat.zero_le _,rfl,o,rfl⟩,rfl,fun b hb=>?_,fun i hi=>?_⟩)
 ·have:H.length=b:=Option.some.inj hb
  omega
 ·have hi0:i=0:=by simp at hi;exact hi
  subst hi0
  refine ⟨x,rfl,(h.le lG).less (Nat.zero_le _),fun b hb=>?_⟩
  have:=h.bk_lt hb
  refine ⟨this.1,by omega,fun hv=>?_,fun j _ hj=>by omega⟩
  have:H.length=b:=Option.some.inj hv
  omega
def WkC (n:Int) (es:List (Int × Int)) (e en f:Nat):Prop:=∀ (H:AHeap) (v u:Value) (L:List Int) (a bm:Nat) (S:List Bool) (K:Value→AHeap→Prop),Edges H v es→Ints H u L→L.getD 0 0=(e:Int)→0<L.length→L.length+f≤100→(∀ x∈L,0≤x∧x<es.length)→(a:Int)<n→Own H bm 4 (LB S)→S.length=n.toNat→unseen (fun j=>S.getD j false) n.toNat<f→
 (∀ v' G,H.le G→RowsF (fun b=>H.length≤b) G.length G v' ((pwL es e en f a (fun j=>S.getD j false)).map fun p=>srtI (L++p))→K v' G)→
 AC Tryz.prog T0 131 [.agg ⟨[.int .i64 n,v]⟩,u,.int .i64 (a:Nat),.int .i64 (en:Nat),.slice (some ⟨bm,0,none⟩) n.toNat (n.toNat+1)] H K
theorem insB_set {S:List Bool} {y:Nat} (hy:y<S.length):(fun j=>(S.set y true).getD j false)=insB (fun j=>S.getD j false) y:=funext fun j=>setB hy j
theorem cell_but {b:Nat} {S:List Bool} (hb:But b H G) (ho:Own H b 4 (LB S)) {c o:Nat} {x:Int} (hc:H.cell c o=some (.int .i64 x)):G.cell c o=some (.int .i64 x):=by
 by_cases e:c=b
 ·subst e
  rw [ho.cell,List.getElem?_map] at hc
  cases h:S[o]? with
  | none=>rw [h] at hc;cases hc
  | some y=>rw [h] at hc;cases hc
 ·unfold AHeap.cell at hc ⊢
  rw [hb.same c e];exact hc
theorem edges_but {b:Nat} {S:List Bool} (h:Edges H v es) (hb:But b H G) (ho:Own H b 4 (LB S)):Edges G v es:=by
 rcases h with h|⟨a,c,h1,h2|⟨h2,h3⟩⟩
 ·exact .inl h
 ·exact .inr ⟨a,c,h1,.inl h2⟩
 ·exact .inr ⟨a,c,h1,.inr ⟨h2,fun i x hx=>⟨cell_but hb ho (h3 i x hx).1,cell_but hb ho (h3 i x hx).2⟩⟩⟩
theorem ints_but {b:Nat} {S:List Bool} (h:Ints H v l) (hb:But b H G) (ho:Own H b 4 (LB S)):Ints G v l:=by
 rcases h with h|⟨a,c,h1,h2|⟨h2,h3⟩⟩
 ·exact .inl h
 ·exact .inr ⟨a,c,h1,.inl h2⟩
 ·exact .inr ⟨a,c,h1,.inr ⟨h2,fun i x hx=>cell_but hb ho (h3 i x hx)⟩⟩
theorem set_back {S:List Bool} {w:Nat} (h:S.getD w false=false) (hw:w<S.length):(S.set w true).set w false=S:=by
 rw [List.set_set]
 have:false=S[w]:=by rw [getD_of hw] at h;exact h.symm
 rw [this,List.set_getElem_self]
set_option maxHeartbeats 1000000 in
theorem walk_body {f a bm bx:Nat} {Hb:AHeap} {S:List Bool} {L:List Int} {ls:List (List Int)} {c o:Value} {t:Nat} {N2:Value→Int→Int→Value→Nat→Value→Value→Int→AHeap→Prop} (hg:IsG n es) (hf:f≤13) (IH:WkC n es e en f) {A:Nat→Prop}
 (h:Edges Hb v es) (hu:Ints Hb u L) (hLe:L.getD 0 0=(e:Int)) (hL0:0<L.length) (hLl:L.length+(f+1)≤100) (hLr:∀ x∈L,0≤x∧x<es.length) (han:(a:Int)<n) (oS:Own Hb bm 4 (LB S)) (hSl:S.length=n.toNat) (hun:unseen (fun j=>S.getD j false) n.toNat<f+1)
 (ob:Own Hb bx 26 [.int .i64 n,v]) (lH:Hb.le H) (hc:Fresh 0 H c 2 1 (LI (atL es a))) (ht:t<(atL es a).length)
 (hR:RowsF A H.length H o ls) (hA:∀ b,H.length≤b→A b) (hAs:∀ b,A b→bk c≠some b∧Hb.length≤b) (hls:ls.length≤3*3^13)
 (hN:∀ o' G,Hb.le G→H.length≤G.length→Fresh 0 G c 2 1 (LI (atL es a))→RowsF A G.length G o' (ls++(stepW es e en f a (fun j=>S.getD j false) ((atL es a).getD t 0)).map fun p=>srtI (L++p))→
  N2 u (a:Nat) (en:Nat) (.slice (some ⟨bm,0,none⟩) n.toNat (n.toNat+1)) bx o' c (t+1:Nat) G) :
 F131.B8 K N2 u (a:Nat) (en:Nat) (.slice (some ⟨bm,0,none⟩) n.toNat (n.toNat+1)) bx o c (t:Nat) H:=by
 have h30:es.length≤30:=by have:=hg.ed.len;have:=hg.ed.hi;omega
 have hn20:=hg.ed.hi
 have hE:=hg.endsIn
 obtain ⟨i,hi1,hi2,hi3⟩:=at_get (es:=es) (w:=(a:Int)) ht
 obtain ⟨q1,q2,q3,q4,q5⟩:=oe_of hE hi2 hi3
 rw [hi1] at hN
 obtain ⟨d1,d2,d3,d4,d5⟩:=hg.ed.ends es[i] (List.getElem_mem hi2)
 rw [← getD_of (d:=(0,0)) hi2] at d1 d2 d3 d4 d5
 have hat:=atL_short (es:=es) hg a
 have rdc:∀ {G:AHeap} {K:Int→Prop},Fresh 0 G c 2 1 (LI (atL es a))→K (i:Int)→idxK c (t:Nat) 1 (fun b o=>ldI .i64 G b o K):=fun hc k=>by
  refine hc.ints.rd (by omega) (by omega) ?_
  rwa [Int.toNat_natCast,hi1]
 unfold F131.B8
 refine ldI_own (ob.le lH) rfl (ld1_own (ob.le lH) rfl (rdc hc (l01Other_ok (h.le lH) (by omega) (by omega) (by rw [Int.toNat_natCast];omega) (by rw [Int.toNat_natCast];omega) (by omega) fun G lG=>asI_mk ?_)))
 rw [Int.toNat_natCast,q1]
 have lHG:=AHeap.le_trans lH lG
 have hc:=hc.le lG;have hR:=hR.le lG
 have hlen:=lG.1
 have huG:=hu.le lHG
 unfold F131.B7
 refine rdc hc (huG.rd (by decide) (by omega) ?_)
 rw [show L.getD (0:Int).toNat 0=(e:Int) from hLe]
 have skip:i≤e∨(fun j=>S.getD j false) (oe es i a)=true→F131.B3 K N2 u (a:Nat) (en:Nat) (.slice (some ⟨bm,0,none⟩) n.toNat (n.toNat+1)) bx o c (t:Nat) G:=fun hs=>by
  unfold F131.B3
  rw [wrap_id (by omega) (by omega)]
  have e0:stepW es e en f a (fun j=>S.getD j false) (i:Int)=[]:=by
   unfold stepW
   rw [if_pos]
   rw [Int.toNat_natCast]
   exact hs.imp (fun h=>by omega) id
  have:=hN o G lHG hlen hc (by rw [e0];simpa using hR.mono (fun _ h=>h) hlen)
  simpa using this
 refine pif_cases (fun hb=>skip (.inl (by have:=of_decide_eq_true hb;omega))) fun hb=>?_
 have hei:e<i:=by have:=of_decide_eq_false hb;omega
 have hwl:oe es i a<S.length:=by omega
 refine own_idx (by omega) (by omega) (ld1_own (oS.le lHG) (by rw [Int.toNat_natCast];exact LB_get hwl) (asB_mk (pif_cases (fun hb=>skip (.inr hb)) fun hb=>?_)))
 have hM:S.getD (oe es i a) false=false:=hb
 -- a new vertex
 unfold F131.B6
 refine own_idx (by omega) (by omega) (stK_1 (oS.le lHG) (by simp;omega) rfl fun G1 b1 o1=>?_)
 rw [Int.toNat_natCast,show (LB S).set (oe es i a) (.bool true)=LB (S.set (oe es i a) true) from List.map_set.symm] at o1
 have hu1:=unseen_ins (S:=fun j=>S.getD j false) (y:=oe es i a) (n:=n.toNat) (by omega) hM
 have un1:unseen (fun j=>(S.set (oe es i a) true).getD j false) n.toNat<f:=by rw [insB_set hwl];omega
 have bmb:=oS.lt
 have hbxm:bx≠bm:=by
  rintro rfl
  have:=ob.symm.trans oS
  simp at this
 have hE1:Edges G1 v es:=edges_but (h.le lHG) b1 (oS.le lHG)
 have hu1':Ints G1 u L:=ints_but huG b1 (oS.le lHG)
 have ob1:Own G1 bx 26 [.int .i64 n,v]:=b1.own (ob.le lHG) hbxm
 have hcm:bk c≠some bm:=by
  intro hcb
  rcases hc with ⟨h0,h1|⟨a',h1⟩⟩|⟨b,n',_,rfl,g3,_⟩
  ·subst h1;cases hcb
  ·subst h1;cases hcb
  ·obtain rfl:b=bm:=Option.some.inj hcb
   have:=(oS.le lHG).symm.trans g3
   simp at this
 have hc1:Fresh 0 G1 c 2 1 (LI (atL es a)):=fresh_oth hc fun b x hb hx=>by
  rw [b1.same b (fun e=>hcm (by rw [hb,e]))];exact hx
 have hR1:RowsF A H.length G1 o ls:=hR.but b1 fun hbad=>by have:=(hAs bm hbad).2;omega
 have h1len:=b1.len
 unfold F131.B5
 refine ldI_own ob1 rfl (ld1_own ob1 rfl (Sl_rd1 hc1.sl (by omega) (by simp;omega) fun b3 o4 hcell=>?_))
 have hcell:G1.cell b3 o4=some (.int .i64 (i:Nat)):=by
  rw [hcell,Int.toNat_natCast,List.getElem?_map,List.getElem?_eq_getElem ht,← getD_of (d:=0) ht,hi1];rfl
 refine ldI_mk hcell ?_
 have chk:∀ G2,G1.le G2→(ldI .i64 G2 bx 0 fun v9=>ld1 G2 bx 1 fun v10=>Value.agg ⟨[.int .i64 v9,v10]⟩=.agg ⟨[.int .i64 n,v]⟩∧G2=G2):=fun G2 l2=>ldI_own (ob1.le l2) rfl (ld1_own (ob1.le l2) rfl ⟨rfl,rfl⟩)
 have chk2:∀ G2,G1.le G2→(ldI .i64 G2 b3 o4 fun v11=>Value.int .i64 v11=.int .i64 (i:Nat)∧G2=G2):=fun G2 l2=>ldI_mk (AHeap.cell_le l2 hcell) ⟨rfl,rfl⟩
 have fin:∀ G15 v14,G1.le G15→Ints G15 v14 (L++[(i:Int)])→AC Tryz.prog T0 131 [.agg ⟨[.int .i64 n,v]⟩,v14,.int .i64 (oe es i a:Nat),.int .i64 (en:Nat),.slice (some ⟨bm,0,none⟩) n.toNat (n.toNat+1)] G15 (fun v18 H19=>apK T0 27 H19 o v18 (fun v21 H22=>F131.B4 K N2 u (a:Nat) (en:Nat) (.slice (some ⟨bm,0,none⟩) n.toNat (n.toNat+1)) bx v21 c (t:Nat) (oe es i a:Nat) H22)):=by
  intro G15 v14 l15 hi14
  refine IH G15 v v14 (L++[(i:Int)]) (oe es i a) bm (S.set (oe es i a) true) _ (hE1.le l15) hi14 ?_ (by simp) (by simp;omega) (fun x hx=>?_) q3 (o1.le l15) (by simpa using hSl) un1 fun v18 G19 l19 R19=>?_
  ·cases L with
   | nil=>simp at hL0
   | cons y L=>simpa using hLe
  ·rcases List.mem_append.1 hx with hx|hx
   ·exact hLr x hx
   ·rw [List.mem_singleton.1 hx];omega
  have l119:=AHeap.le_trans l15 l19
  have h15:=l15.1
  rw [insB_set hwl] at R19
  have hrl:((pwL es e en f (oe es i a) (insB (fun j=>S.getD j false) (oe es i a))).map fun p=>srtI (L++[(i:Int)]++p)).length≤3^13:=by
   rw [List.length_map]
   exact Nat.le_trans (pw_len hg) (Nat.pow_le_pow_right (by decide) hf)
  have hbo:=hR1
  obtain ⟨vs,_,_,hob,_⟩:=hbo
  refine ((hR1.le l119).mono (B':=G15.length) (fun _ h=>h) (by omega)).app R19 l19.1 (Nat.le_refl _) (fun b hb=>hA b (by omega)) (by omega) fun o' G22 ot len22 R22=>?_
  have oth:∀ b x,b≠bm→b<Hb.length→Hb[b]?=some (some x)→G22[b]?=some (some x):=fun b x hne hb hx=>ot b x (fun hob'=>by have:=(hAs b (hob b hob').1).2;omega) (l119.2 _ _ (by rw [b1.same b hne];exact lHG.2 _ _ hx))
  have obm:Own G22 bm 4 (LB (S.set (oe es i a) true)):=ot _ _ (fun hob'=>by have:=(hAs bm (hob bm hob').1).2;omega) (o1.le l119)
  unfold F131.B4
  refine own_idx (by omega) (by omega) (stK_1 obm (by simp;omega) rfl fun G23 b23 o23=>?_)
  rw [Int.toNat_natCast,show (LB (S.set (oe es i a) true)).set (oe es i a) (.bool false)=LB ((S.set (oe es i a) true).set (oe es i a) false) from List.map_set.symm,set_back hM hwl] at o23
  have h23:=b23.len
  unfold F131.B3
  rw [wrap_id (by omega) (by omega)]
  have hst:(stepW es e en f a (fun j=>S.getD j false) (i:Int)).map (fun p=>srtI (L++p))=(pwL es e en f (oe es i a) (insB (fun j=>S.getD j false) (oe es i a))).map fun p=>srtI (L++[(i:Int)]++p):=by
   unfold stepW
   have hno:¬ ((i:Int)≤(e:Int)∨(fun j=>S.getD j false) (oe es (i:Int).toNat a)=true):=by
    rintro (hx|hx)
    ·omega
    ·have hx:S.getD (oe es i a) false=true:=hx
     rw [hM] at hx;cases hx
   rw [if_neg hno,Int.toNat_natCast,List.map_map]
   refine List.map_congr_left fun p _=>?_
   simp
  have:=hN o' G23 ⟨by have:=lHG.1;have:=l119.1;omega,fun b x hx=>?_⟩ (by have:=l119.1;omega) ?_ ?_
  ·simpa using this
  ·have hb:=lt_of_get hx
   by_cases e:b=bm
   ·subst e
    have:some x=some (AObj.row (LB S) 4 true):=by have:=hx.symm.trans oS;simpa using this
    rw [show x=_ from Option.some.inj this];exact o23
   ·rw [b23.same b e];exact oth b x e hb hx
  ·refine fresh_oth (fresh_oth (hc1.le l119) fun b x hb hx=>ot b x (fun hob'=>(hAs b (hob b hob').1).1 hb) hx) fun b x hb hx=>?_
   rw [b23.same b (fun e=>hcm (by rw [hb,e]))];exact hx
  ·rw [hst]
   exact (R22.but b23 fun hbad=>by have:=(hAs bm hbad).2;omega).mono (fun _ h=>h) (by omega)
 refine ⟨l01Own_ok hu1' (by omega) fun v6 G7 l7 f6=>⟨chk G7 l7,chk2 G7 l7,?_⟩,newK_f rfl fun G24 l24 n24 o24=>l01Own_ok (hu1'.le l24) (by omega) fun v25 G26 l26 f26=>⟨chk _ (AHeap.le_trans l24 l26),chk2 _ (AHeap.le_trans l24 l26),?_⟩⟩
 ·refine f6.sl.pushN E_int (by decide) l7.1 (n:=1) (ys:=[.int .i64 (i:Nat)]) rfl rfl (by simp;omega) (by simp) fun v14 G15 k15 _ _ f15=>?_
  have l15:=k15.le l7 (Nat.le_refl _)
  have f15:Fresh G1.length G15 v14 2 1 (LI (L++[(i:Int)])):=by simpa using f15
  exact ⟨chk _ l15,fin G15 v14 l15 f15.ints⟩
 ·have hcs:cellsAt G26 (.slice (some ⟨G1.length,0,none⟩) 1 (1+1)) 1 1 [.int .i64 (i:Nat)]:=cellsAt_row (o24.le l26) rfl
  refine f26.sl.app E_int (by decide) l26.1 hcs (by simp;omega) (fun h=>by cases h) fun v14 G15 k15 _ _ f15=>?_
  have l15:=AHeap.le_trans l24 (k15.le l26 (Nat.le_refl _))
  have f15:Fresh G24.length G15 v14 2 1 (LI (L++[(i:Int)])):=by simpa using f15
  exact ⟨chk _ l15,fin G15 v14 l15 f15.ints⟩
theorem walk_ok (hg:IsG n es):∀ {f:Nat},f≤14→WkC n es e en f
 | 0,_=>fun H v u L a bm S K h hu hLe hL0 hLl hLr han oS hSl hun k=>by omega
 | f+1,hf=>fun H v u L a bm S K h hu hLe hL0 hLl hLr han oS hSl hun k=>by
  have IH:WkC n es e en f:=walk_ok hg (by omega)
  have h30:es.length≤30:=by have:=hg.ed.len;have:=hg.ed.hi;omega
  apply F131.ac
  unfold F131.B14
  refine newK_f (all_iv (edges_one' h)) fun H1 l1 n1 o1=>?_
  unfold F131.B13
  by_cases ha:a=en
  ·refine pif_t (by simp [ha]) ?_
   unfold F131.B12
   refine l07Sort_ok (hu.le l1) (by omega) fun v1 H2 l2 f2=>rows_one f2 l2.1 fun G lG hR=>?_
   refine k _ G (AHeap.le_trans l1 (AHeap.le_trans l2 lG)) ?_
   rw [pwL,if_pos ha]
   simpa using hR.mono (fun b hb=>by omega) (Nat.le_refl _)
  ·refine pif_f (by simp;omega) ?_
   unfold F131.B11
   refine newK_f rfl fun H2 l2 n2 o2=>?_
   refine ldI_own (o1.le l2) rfl (ld1_own (o1.le l2) rfl (l01At_ok (h.le (AHeap.le_trans l1 l2)) (by omega) fun c H3 l3 fc=>?_))
   have hcl:∀ b,bk c=some b→H2.length≤b:=fun b hb=>(fc.bk_lt hb).1
   have hcl':∀ b,bk c=some b→b<H3.length:=fun b hb=>(fc.bk_lt hb).2
   have hat:=atL_short (es:=es) hg a
   have e2:H2.length=H1.length+1:=n2
   unfold F131.B10 F131.L2
   refine ⟨fun x1 x2 x3 x4 x5 x11 x12 x13 G=>u=x1∧(a:Int)=x2∧(en:Int)=x3∧.slice (some ⟨bm,0,none⟩) n.toNat (n.toNat+1)=x4∧H.length=x5∧c=x12∧H1.le G∧H3.length≤G.length∧Fresh 0 G c 2 1 (LI (atL es a))∧∃ t:Nat,x13=t∧t≤(atL es a).length∧RowsF (fun b=>H1.length≤b∧bk c≠some b) G.length G x11 ((((atL es a).take t).flatMap (stepW es e en f a (fun j=>S.getD j false))).map fun p=>srtI (L++p)),
    fun _ _ _ _ _ _ _ x13 _=>(atL es a).length-x13.toNat,⟨rfl,rfl,rfl,rfl,rfl,rfl,AHeap.le_trans l2 l3,Nat.le_refl _,fc.less (Nat.zero_le _),0,rfl,by omega,?_⟩,?_⟩
   ·have hb1:=o2.lt
    exact (RowsF.nil1 (A:=fun b=>H1.length≤b∧bk c≠some b) (o2.le l3) ⟨Nat.le_refl _,fun hb=>by have:=hcl _ hb;omega⟩ (by have:=l3.1;omega))
   rintro x1 x2 x3 x4 x5 x11 x12 x13 G ⟨rfl,rfl,rfl,rfl,rfl,rfl,lG,hG3,hcG,t,rfl,ht,hR⟩
   unfold F131.B9
   refine hcG.sl.len (by decide) (n:=(atL es a).length) (by simp) (pif_cases (fun hb=>?_) fun hb=>?_)
   ·have htl:t<(atL es a).length:=by have:=of_decide_eq_true hb;omega
    refine walk_body hg (by omega) IH (Hb:=H1) (h.le l1) (hu.le l1) hLe hL0 hLl hLr han (oS.le l1) hSl hun o1 lG hcG htl hR (fun b hb=>⟨by have:=lG.1;omega,fun hcb=>by have:=hcl' b hcb;omega⟩) (fun b hb=>⟨hb.2,hb.1⟩) ?_ fun o' G2 l2' hlen hc2 hR2=>?_
    ·rw [List.length_map]
     have h1:=flat_len (l:=(atL es a).take t) (g:=stepW es e en f a (fun j=>S.getD j false)) (k:=3^13) fun i _=>by
      unfold stepW
      split
      ·simp
      ·rw [List.length_map];exact Nat.le_trans (pw_len hg) (Nat.pow_le_pow_right (by decide) (by omega))
     have h2:=Nat.mul_le_mul_right (3^13) (show ((atL es a).take t).length≤3 by rw [List.length_take];omega)
     exact Nat.le_trans h1 h2
    ·refine ⟨⟨rfl,rfl,rfl,rfl,rfl,rfl,l2',by omega,hc2,t+1,rfl,by omega,?_⟩,by simp;omega⟩
     rw [List.take_succ_eq_append_getElem htl,List.flatMap_append,List.map_append,← getD_of (d:=0) htl]
     simpa using hR2
   ·have hte:t=(atL es a).length:=by have:=of_decide_eq_false hb;omega
    subst hte
    rw [List.take_length,← pwL_step ha] at hR
    unfold F131.B1
    exact k _ G (AHeap.le_trans l1 lG) (hR.mono (fun b hb=>Nat.le_trans l1.1 hb.1) (Nat.le_refl _))
end Go.Proofs
namespace Go.Proofs
open Go.Abs

variable {H G:AHeap} {v u f w:Value} {l m:List Int} {es fs:List (Int × Int)} {K:Value→AHeap→Prop} {n:Int} {e en:Nat}

theorem srt_row (hE:EndsIn n es) (he:e<es.length) {l:List Int} (hl:l∈pwL es e (eaN es e) (n.toNat+1) (ebN es e) (metB (ebN es e))):srtI ((e:Int)::l)=rowOf es.length ((e:Int)::l):=by
 obtain ⟨C,h1,h2⟩:=cy_way hE he hl
 have P:=wk_prop hE hl (by simp [metB])
 symm
 refine srtI_eq (C.s.asc.imp fun h=>Int.le_of_lt h) ?_
 exact (List.perm_ext_iff_of_nodup (asc_nodup C.s.asc) (List.nodup_cons.2 ⟨h1,P.nd⟩)).2 h2
theorem cyE_len (hg:IsG n es) (hn:n≤12):(cyE n es e).length≤3^13:=by
 unfold cyE
 rw [List.length_map]
 exact Nat.le_trans (pw_len hg) (Nat.pow_le_pow_right (by decide) (by omega))
theorem cyRows_len (hg:IsG n es) (hn:n≤12) (k:Nat) (hk:k≤es.length):((List.range k).flatMap (cyE n es)).length≤18*3^13:=by
 have h1:=flat_len (l:=List.range k) (g:=cyE n es) (k:=3^13) fun a _=>cyE_len hg hn
 have h18:es.length≤18:=by have:=hg.ed.len;omega
 have h2:=Nat.mul_le_mul_right (3^13) (show (List.range k).length≤18 by simp;omega)
 exact Nat.le_trans h1 h2
theorem l07All_ok (h:Edges H v es) (hg:IsG n es) (hn:n≤12) (k:∀ v' G,H.le G→RowsF (fun b=>H.length≤b) G.length G v' (cyRows n es)→K v' G):AC Tryz.prog T0 74 [.agg ⟨[.int .i64 n,v]⟩] H K:=by
 have h30:es.length≤30:=by have:=hg.ed.len;have:=hg.ed.hi;omega
 have hn0:=hg.ed.lo
 have hE:=hg.endsIn
 apply F74.ac
 unfold F74.B10
 refine newK_f (all_iv (edges_one' h)) fun H1 l1 n1 o1=>?_
 unfold F74.B9
 refine newK_f rfl fun H2 l2 n2 o2=>?_
 unfold F74.B8 F74.L2
 refine ⟨fun x1 x3 x4 G=>H.length=x1∧H1.le G∧∃ i:Nat,x4=i∧i≤es.length∧RowsF (fun b=>H1.length≤b) G.length G x3 ((List.range i).flatMap (cyE n es)),fun _ _ x4 _=>es.length-x4.toNat,⟨rfl,l2,0,rfl,by omega,RowsF.nil1 o2 (Nat.le_refl _) o2.lt⟩,?_⟩
 rintro x1 x3 x4 G ⟨rfl,lG1,i,rfl,hi,hR⟩
 have lG:=AHeap.le_trans l1 lG1
 have oG:=o1.le lG1
 unfold F74.B7
 refine ld1_own oG rfl ((h.le lG).len (pif_cases (fun hb=>?_) fun hb=>?_))
 ·have hlt:i<es.length:=by have:=of_decide_eq_true hb;omega
  obtain ⟨hab,hne,han,hbn,hon⟩:=ends_eq hE hlt
  unfold F74.B6
  refine ldI_own oG rfl (mkR_int (by omega) (by omega) (by decide) fun G2 g2 m2 q2=>?_)
  rw [rep_b] at q2
  have lG2:=AHeap.le_trans lG g2
  obtain ⟨bb,oo,hk,c1,c2⟩:=(h.le lG2).idx (show (0:Int)≤i by omega) (by omega)
  simp only [Int.toNat_natCast,hab] at c1 c2
  unfold F74.B5
  refine ld1_own (oG.le g2) rfl (hk _ (ldI_mk c2 (own_idx (by omega) (by omega) (stK_1 q2 (by simp;omega) rfl fun G3 b3 q3=>?_))))
  rw [Int.toNat_natCast,show (LB (List.replicate n.toNat false)).set (ebN es i) (.bool true)=LB ((List.replicate n.toNat false).set (ebN es i) true) from List.map_set.symm] at q3
  have l3:G.le G3:=b3.le g2 (Nat.le_refl _)
  have lG3:=AHeap.le_trans lG l3
  have oG3:=oG.le l3
  obtain ⟨bb',oo',hk',c1',c2'⟩:=(h.le lG3).idx (show (0:Int)≤i by omega) (by omega)
  simp only [Int.toNat_natCast,hab] at c1' c2'
  unfold F74.B4
  refine ldI_own oG3 rfl (ld1_own oG3 rfl (ld1_own oG3 rfl (hk' _ (ldI_mk c2' (ld1_own oG3 rfl (hk' _ (ldI_mk c1' (newK_f rfl fun G4 l4 m4 q4=>?_))))))))
  have hl4:Ints G4 (.slice (some ⟨G3.length,0,none⟩) 1 (1+1)) [(i:Int)]:=own_ints (l:=[(i:Int)]) q4
  have hM:(fun j=>((List.replicate n.toNat false).set (ebN es i) true).getD j false)=metB (ebN es i):=by
   rw [insB_set (by simp;omega)]
   funext j
   unfold insB metB
   have:(List.replicate n.toNat false).getD j false=false:=by
    rw [List.getD_eq_getElem?_getD,List.getElem?_replicate];split <;> rfl
   show ((List.replicate n.toNat false).getD j false||decide (ebN es i=j))=decide (j=ebN es i)
   rw [this,Bool.false_or]
   exact decide_eq_decide.2 eq_comm
  have hw:=walk_ok (e:=i) (en:=eaN es i) hg (f:=n.toNat+1) (by omega)
  refine hw G4 v _ [(i:Int)] (ebN es i) G.length ((List.replicate n.toNat false).set (ebN es i) true) _ (h.le (AHeap.le_trans lG3 l4)) hl4 rfl (by simp) (by simp;omega) (fun x hx=>?_) hbn (q3.le l4) (by simp) (by rw [hM];have:=unseen_le (metB (ebN es i)) n.toNat;omega) fun v13 G5 l5 R5=>?_
  ·rw [List.mem_singleton.1 hx];omega
  rw [hM] at R5
  have hrow:((pwL es i (eaN es i) (n.toNat+1) (ebN es i) (metB (ebN es i))).map fun p=>srtI ([(i:Int)]++p))=cyE n es i:=List.map_congr_left fun p hp=>srt_row hE hlt hp
  rw [hrow] at R5
  have l45:=AHeap.le_trans l3 (AHeap.le_trans l4 l5)
  have hc1:=cyRows_len hg hn i hi
  have hc2:=cyE_len (e:=i) hg hn
  refine ((hR.le l45).mono (B':=G4.length) (fun _ h=>h) (AHeap.le_trans l3 l4).1).app R5 l5.1 (Nat.le_refl _) (fun b hb=>by have:=(AHeap.le_trans lG1 (AHeap.le_trans l3 l4)).1;omega) ?_ fun v' G6 ot len6 R6=>?_
  ·exact Nat.le_trans (Nat.add_le_add hc1 hc2) (by decide)
  unfold F74.B3
  rw [wrap_id (by omega) (by omega)]
  obtain ⟨vs,_,_,hob,_⟩:=hR
  refine ⟨⟨rfl,⟨by have:=lG1.1;have:=l45.1;omega,fun b o ho=>ot b o (fun hb'=>?_) (l45.2 _ _ (lG1.2 _ _ ho))⟩,i+1,by omega,by omega,?_⟩,by simp;omega⟩
  ·have:=(hob b hb').1;have:=lt_of_get ho;omega
  ·rw [List.range_succ,List.flatMap_append]
   simpa using R6
 ·have hie:i=es.length:=by have:=of_decide_eq_false hb;omega
  subst hie
  unfold F74.B1
  exact k _ G lG (hR.mono (fun b hb=>Nat.le_trans l1.1 hb) (Nat.le_refl _))
end Go.Proofs
namespace Go.Proofs
open Go.Abs

variable {B H G G':AHeap} {b N:Nat} {L S M:List Nat} {R:List Value} {cmp:Value} {c:Nat→Nat→Int} {dom:Nat→Prop} {K:Value→AHeap→Prop}

theorem swp_at1 {i j:Nat} (hi:i<L.length) (hj:j<L.length):(swp 0 L i j).getD i 0=L.getD j 0:=by
 rw [swp_get hi hj]
 by_cases e:i=j
 ·rw [if_pos e,e]
 ·rw [if_neg e,if_pos rfl]
theorem swp_at2 {i j:Nat} (hi:i<L.length) (hj:j<L.length):(swp 0 L i j).getD j 0=L.getD i 0:=by rw [swp_get hi hj,if_pos rfl]
theorem swp_off {i j k:Nat} (hi:i<L.length) (hj:j<L.length) (h1:k≠i) (h2:k≠j):(swp 0 L i j).getD k 0=L.getD k 0:=by rw [swp_get hi hj,if_neg h2,if_neg h1]
theorem partC_ok (E:SE B b N cmp c dom) (h:Sq R B H b N dom L) {a e p:Nat} (hap:a≤p) (hpe:p<e) (he:e≤N)
 (k:∀ G S mid q,Kb b H G→Sq R B G b N dom S→Seg a e L S→a≤mid→mid<e→(∀ i,a≤i→i<mid→LeC c (S.getD i 0) (S.getD mid 0))→(∀ i,mid<i→i<e→LeC c (S.getD mid 0) (S.getD i 0))→K (.tuple ⟨[.int .i64 (mid:Nat),.bool q]⟩) G) :
 AC Tryz.prog T0 178 [sv b N,.int .i64 a,.int .i64 e,.int .i64 p,cmp] H K:=by
 have hN:=E.hN
 have hLl:=h.len
 apply F178.ac
 unfold F178.B28 F178.B27
 refine h.swap E (i:=a) (j:=p) (by omega) (by omega) rfl rfl fun G1 k1 s1=>?_
 obtain ⟨M,hM⟩:∃ M,M=swp 0 L a p:=⟨_,rfl⟩
 rw [← hM] at s1
 have g1:Seg a e L M:=by rw [hM];exact swp_seg (by omega) (by omega) (by omega) (by omega) (by omega)
 obtain ⟨P,hP⟩:∃ P,P=M.getD a 0:=⟨_,rfl⟩
 have hMl:=s1.len
 -- the end: the pivot is put between
 have fin:∀ (G:AHeap) (S:List Nat) (i j:Nat) (X:AHeap→Prop),Kb b H G→Sq R B G b N dom S→Seg a e L S→S.getD a 0=P→a+1≤i→i=j+1→j<e→(∀ q,a<q→q<i→c (S.getD q 0) P<0)→(∀ q,j<q→q<e→¬ c (S.getD q 0) P<0)→
  (∀ G',Kb b G G'→Sq R B G' b N dom (swp 0 S j a)→(∀ q,K (.tuple ⟨[.int .i64 (j:Nat),.bool q]⟩) G')→X G')→
  swK b N (j:Int) (a:Int) G X:=by
  intro G S i j X bG sS gS hSa hi hij hj hlt hge hX
  have hSl:=sS.len
  refine sS.swap E (i:=j) (j:=a) (by omega) (by omega) rfl rfl fun G2 k2 s2=>hX G2 k2 s2 fun q=>?_
  have e1:(swp 0 S j a).getD j 0=P:=by rw [swp_at1 (by omega) (by omega),hSa]
  refine k G2 _ j q (bG.trans k2) s2 (gS.trans (swp_seg (by omega) (by omega) (by omega) (by omega) (by omega))) (by omega) hj (fun i' h1 h2=>?_) fun i' h1 h2=>?_
  ·rw [e1]
   by_cases e2:i'=a
   ·subst e2
    rw [swp_at2 (by omega) (by omega)]
    exact E.ord.lt (hlt j (by omega) (by omega))
   ·rw [swp_off (by omega) (by omega) (by omega) e2]
    exact E.ord.lt (hlt i' (by omega) (by omega))
  ·rw [e1,swp_off (by omega) (by omega) (by omega) (by omega)]
   exact hge i' h1 h2
 unfold F178.B26
 rw [wr (i:=a+1) (by omega) (by omega),wr (i:=e-1) (by omega) (by omega)]
 unfold F178.L23
 refine ⟨fun x0 x1 x4 x12 x13 G=>sv b N=x0∧(a:Int)=x1∧cmp=x4∧((e-1:Nat):Int)=x13∧Kb b H G∧Sq R B G b N dom M∧∃ i:Nat,x12=i∧a+1≤i∧i≤e∧∀ q,a<q→q<i→c (M.getD q 0) P<0,
  fun _ _ _ x12 _ _=>e-x12.toNat,⟨rfl,rfl,rfl,rfl,k1,s1,a+1,rfl,Nat.le_refl _,by omega,fun q h1 h2=>by omega⟩,?_⟩
 rintro x0 x1 x4 x12 x13 G ⟨rfl,rfl,rfl,rfl,bG,sG,i,rfl,hi,hie,hlt⟩
 -- behind the first search from the left
 have part2:∀ G,Kb b H G→Sq R B G b N dom M→(i≤e-1→¬ c (M.getD i 0) P<0)→F178.L20 K (sv b N) a cmp i ((e-1:Nat):Int) G:=by
  intro G bG sG hstop
  unfold F178.L20
  refine ⟨fun x0 x1 x4 x12 x13 G=>sv b N=x0∧(a:Int)=x1∧cmp=x4∧(i:Int)=x12∧Kb b H G∧Sq R B G b N dom M∧∃ j:Nat,x13=j∧a≤j∧i≤j+1∧j<e∧∀ q,j<q→q<e→¬ c (M.getD q 0) P<0,
   fun _ _ _ _ x13 _=>x13.toNat,⟨rfl,rfl,rfl,rfl,bG,sG,e-1,rfl,by omega,by omega,by omega,fun q h1 h2=>by omega⟩,?_⟩
  rintro x0 x1 x4 x12 x13 G ⟨rfl,rfl,rfl,rfl,bG,sG,j,rfl,haj,hij,hje,hge⟩
  have b19:∀ G,Kb b H G→Sq R B G b N dom M→(i≤j→c (M.getD j 0) P<0)→F178.B19 K (sv b N) a cmp i j G:=by
   intro G bG sG hj2
   unfold F178.B19
   refine pif_cases (fun hb=>?_) fun hb=>?_
   ·have hgt:=of_decide_eq_true hb
    unfold F178.B18
    refine fin G M i j _ bG sG g1 hP.symm hi (by omega) hje hlt hge fun G' k2 s2 hK=>?_
    unfold F178.B17
    exact hK true
   ·have hle:=of_decide_eq_false hb
    have hlij:i≤j:=by omega
    have hjP:=hj2 hlij
    have hiP:=hstop (by omega)
    have hne:i≠j:=fun h=>by rw [h] at hiP;exact hiP hjP
    unfold F178.B16
    refine sG.swap E (i:=i) (j:=j) (by omega) (by omega) rfl rfl fun G2 k2 s2=>?_
    unfold F178.B15
    rw [wr (i:=i+1) (by omega) (by omega)]
    unfold F178.B14
    rw [wr (i:=j-1) (by omega) (by omega)]
    -- the loop
    unfold F178.L3
    refine ⟨fun x0 x1 x4 x12 x13 G=>sv b N=x0∧(a:Int)=x1∧cmp=x4∧Kb b H G∧∃ (i j:Nat) (S:List Nat),x12=i∧x13=j∧a+1≤i∧i≤j+1∧j<e∧Sq R B G b N dom S∧Seg a e L S∧S.getD a 0=P∧(∀ q,a<q→q<i→c (S.getD q 0) P<0)∧∀ q,j<q→q<e→¬ c (S.getD q 0) P<0,
     fun _ _ _ x12 x13 _=>x13.toNat+1-x12.toNat,⟨rfl,rfl,rfl,bG.trans k2,i+1,j-1,_,rfl,rfl,by omega,by omega,by omega,s2,g1.trans (swp_seg (by omega) (by omega) (by omega) (by omega) (by omega)),?_,?_,?_⟩,?_⟩
    ·rw [swp_off (by omega) (by omega) (by omega) (by omega),hP]
    ·intro q h1 h2
     by_cases e1:q=i
     ·subst e1;rw [swp_at1 (by omega) (by omega)];exact hjP
     ·rw [swp_off (by omega) (by omega) e1 (by omega)];exact hlt q h1 (by omega)
    ·intro q h1 h2
     by_cases e1:q=j
     ·subst e1;rw [swp_at2 (by omega) (by omega)];exact hiP
     ·rw [swp_off (by omega) (by omega) (by omega) e1];exact hge q (by omega) h2
    clear hge hlt hjP hiP hj2 hstop bG sG k2 s2 hle hlij hne hb hij haj hje hi hie
    rintro x0 x1 x4 x12 x13 G ⟨rfl,rfl,rfl,bG,i,j,S,rfl,rfl,hi,hij,hje,sS,gS,hSa,hlt,hge⟩
    have hSl:=sS.len
    unfold F178.L11
    refine ⟨fun x0 x1 x4 x12 x13 G=>sv b N=x0∧(a:Int)=x1∧cmp=x4∧(j:Int)=x13∧Kb b H G∧Sq R B G b N dom S∧∃ i':Nat,x12=i'∧i≤i'∧i'≤j+1∧∀ q,a<q→q<i'→c (S.getD q 0) P<0,
     fun _ _ _ x12 _ _=>j+1-x12.toNat,⟨rfl,rfl,rfl,rfl,bG,sS,i,rfl,Nat.le_refl _,hij,hlt⟩,?_⟩
    clear bG sS hlt
    rintro x0 x1 x4 x12 x13 G ⟨rfl,rfl,rfl,rfl,bG,sS,i',rfl,hii,hij',hlt⟩
    have inner:∀ G,Kb b H G→Sq R B G b N dom S→(i'≤j→¬ c (S.getD i' 0) P<0)→∀ N3:Value→Int→Value→Int→Int→AHeap→Prop,
     (∀ G' i2 j2 S2,Kb b H G'→a+1≤i2→i2≤j2+1→j2<e→Sq R B G' b N dom S2→Seg a e L S2→S2.getD a 0=P→(∀ q,a<q→q<i2→c (S2.getD q 0) P<0)→(∀ q,j2<q→q<e→¬ c (S2.getD q 0) P<0)→j2+1-i2<j+1-i→N3 (sv b N) a cmp (i2:Nat) (j2:Nat) G')→
     F178.L8 K N3 (sv b N) a cmp i' j G:=by
     intro G bG sS hstop N3 hN3
     unfold F178.L8
     refine ⟨fun x0 x1 x4 x12 x13 G=>sv b N=x0∧(a:Int)=x1∧cmp=x4∧(i':Int)=x12∧Kb b H G∧Sq R B G b N dom S∧∃ j':Nat,x13=j'∧j'≤j∧i'≤j'+1∧∀ q,j'<q→q<e→¬ c (S.getD q 0) P<0,
      fun _ _ _ _ x13 _=>x13.toNat,⟨rfl,rfl,rfl,rfl,bG,sS,j,rfl,Nat.le_refl _,hij',hge⟩,?_⟩
     clear bG sS hge
     rintro x0 x1 x4 x12 x13 G ⟨rfl,rfl,rfl,rfl,bG,sS,j',rfl,hjj,hij2,hge⟩
     have b7:∀ G,Kb b H G→Sq R B G b N dom S→(i'≤j'→c (S.getD j' 0) P<0)→F178.B7 K N3 (sv b N) a cmp i' j' G:=by
      intro G bG sS hj2
      unfold F178.B7
      refine pif_cases (fun hb=>?_) fun hb=>?_
      ·have hgt:=of_decide_eq_true hb
       unfold F178.B2
       refine fin G S i' j' _ bG sS gS hSa (by omega) (by omega) (by omega) hlt hge fun G' k2 s2 hK=>?_
       unfold F178.B1
       exact hK false
      ·have hle:=of_decide_eq_false hb
       have hlij:i'≤j':=by omega
       have hjP:=hj2 hlij
       have hiP:=hstop (by omega)
       have hne:i'≠j':=fun h=>by rw [h] at hiP;exact hiP hjP
       unfold F178.B6
       refine sS.swap E (i:=i') (j:=j') (by omega) (by omega) rfl rfl fun G2 k2 s2=>?_
       unfold F178.B5
       rw [wr (i:=i'+1) (by omega) (by omega)]
       unfold F178.B4
       rw [wr (i:=j'-1) (by omega) (by omega)]
       refine hN3 G2 (i'+1) (j'-1) _ (bG.trans k2) (by omega) (by omega) (by omega) s2 (gS.trans (swp_seg (by omega) (by omega) (by omega) (by omega) (by omega))) ?_ ?_ ?_ (by omega)
       ·rw [swp_off (by omega) (by omega) (by omega) (by omega),hSa]
       ·intro q h1 h2
        by_cases e1:q=i'
        ·subst e1;rw [swp_at1 (by omega) (by omega)];exact hjP
        ·rw [swp_off (by omega) (by omega) e1 (by omega)];exact hlt q h1 (by omega)
       ·intro q h1 h2
        by_cases e1:q=j'
        ·subst e1;rw [swp_at2 (by omega) (by omega)];exact hiP
        ·rw [swp_off (by omega) (by omega) (by omega) e1];exact hge q (by omega) h2
     unfold F178.B10
     refine pif_cases (fun hb=>?_) fun hb=>?_
     ·have hle:=of_decide_eq_true hb
      refine sS.less E (i:=j') (j:=a) (by omega) (by omega) rfl rfl fun G1 r l1 s1 hr=>?_
      rw [hSa] at hr
      refine pif_cases (fun hq=>?_) fun hq=>?_
      ·have hn:¬ c (S.getD j' 0) P<0:=fun hc=>by rw [decide_eq_true (hr.2 hc)] at hq;cases hq
       unfold F178.B9
       rw [wr (i:=j'-1) (by omega) (by omega)]
       refine ⟨⟨rfl,rfl,rfl,rfl,bG.trans (Kb.of_le l1),s1,j'-1,rfl,by omega,by omega,fun q h1 h2=>?_⟩,?_⟩
       ·by_cases e1:q=j'
        ·subst e1;exact hn
        ·exact hge q (by omega) h2
       ·show ((j'-1:Nat):Int).toNat<((j':Nat):Int).toNat
        omega
      ·exact b7 G1 (bG.trans (Kb.of_le l1)) s1 fun _=>hr.1 (by simpa using hq)
     ·have hgt:=of_decide_eq_false hb
      exact b7 G bG sS fun h=>by omega
    have hN3:∀ G' i2 j2 S2,Kb b H G'→a+1≤i2→i2≤j2+1→j2<e→Sq R B G' b N dom S2→Seg a e L S2→S2.getD a 0=P→(∀ q,a<q→q<i2→c (S2.getD q 0) P<0)→(∀ q,j2<q→q<e→¬ c (S2.getD q 0) P<0)→j2+1-i2<j+1-i→
     (sv b N=sv b N∧(a:Int)=a∧cmp=cmp∧Kb b H G'∧∃ (i j:Nat) (S:List Nat),(i2:Int)=i∧(j2:Int)=j∧a+1≤i∧i≤j+1∧j<e∧Sq R B G' b N dom S∧Seg a e L S∧S.getD a 0=P∧(∀ q,a<q→q<i→c (S.getD q 0) P<0)∧∀ q,j<q→q<e→¬ c (S.getD q 0) P<0)∧(j2:Int).toNat+1-(i2:Int).toNat<(j:Int).toNat+1-(i:Int).toNat:=
     fun G' i2 j2 S2 h1 h2 h3 h4 h5 h6 h7 h8 h9 h10=>⟨⟨rfl,rfl,rfl,h1,i2,j2,S2,rfl,rfl,h2,h3,h4,h5,h6,h7,h8,h9⟩,by omega⟩
    unfold F178.B13
    refine pif_cases (fun hb=>?_) fun hb=>?_
    ·have hle:=of_decide_eq_true hb
     refine sS.less E (i:=i') (j:=a) (by omega) (by omega) rfl rfl fun G1 r l1 s1 hr=>?_
     rw [hSa] at hr
     refine pif_cases (fun hq=>?_) fun hq=>?_
     ·have hc:=hr.1 (of_decide_eq_true hq)
      unfold F178.B12
      rw [wr (i:=i'+1) (by omega) (by omega)]
      refine ⟨⟨rfl,rfl,rfl,rfl,bG.trans (Kb.of_le l1),s1,i'+1,rfl,by omega,by omega,fun q h1 h2=>?_⟩,?_⟩
      ·by_cases e1:q=i'
       ·subst e1;exact hc
       ·exact hlt q h1 (by omega)
      ·show j+1-((i'+1:Nat):Int).toNat<j+1-((i':Nat):Int).toNat
       omega
     ·exact inner G1 (bG.trans (Kb.of_le l1)) s1 (fun _ hc=>of_decide_eq_false hq (hr.2 hc)) _ hN3
    ·have hgt:=of_decide_eq_false hb
     exact inner G bG sS (fun h=>by omega) _ hN3
  unfold F178.B22
  refine pif_cases (fun hb=>?_) fun hb=>?_
  ·have hle:=of_decide_eq_true hb
   refine sG.less E (i:=j) (j:=a) (by omega) (by omega) rfl rfl fun G1 r l1 s1 hr=>?_
   rw [← hP] at hr
   refine pif_cases (fun hq=>?_) fun hq=>?_
   ·have hn:¬ c (M.getD j 0) P<0:=fun hc=>by rw [decide_eq_true (hr.2 hc)] at hq;cases hq
    unfold F178.B21
    rw [wr (i:=j-1) (by omega) (by omega)]
    refine ⟨⟨rfl,rfl,rfl,rfl,bG.trans (Kb.of_le l1),s1,j-1,rfl,by omega,by omega,by omega,fun q h1 h2=>?_⟩,?_⟩
    ·by_cases e1:q=j
     ·subst e1;exact hn
     ·exact hge q (by omega) h2
    ·show ((j-1:Nat):Int).toNat<((j:Nat):Int).toNat
     omega
   ·exact b19 G1 (bG.trans (Kb.of_le l1)) s1 fun _=>hr.1 (by simpa using hq)
  ·have hgt:=of_decide_eq_false hb
   exact b19 G bG sG fun h=>by omega
 unfold F178.B25
 refine pif_cases (fun hb=>?_) fun hb=>?_
 ·have hle:=of_decide_eq_true hb
  refine sG.less E (i:=i) (j:=a) (by omega) (by omega) rfl rfl fun G1 r l1 s1' hr=>?_
  rw [← hP] at hr
  refine pif_cases (fun hq=>?_) fun hq=>?_
  ·have hc:=hr.1 (of_decide_eq_true hq)
   unfold F178.B24
   rw [wr (i:=i+1) (by omega) (by omega)]
   refine ⟨⟨rfl,rfl,rfl,rfl,bG.trans (Kb.of_le l1),s1',i+1,rfl,by omega,by omega,fun q h1 h2=>?_⟩,?_⟩
   ·by_cases e1:q=i
    ·subst e1;exact hc
    ·exact hlt q h1 (by omega)
   ·show e-((i+1:Nat):Int).toNat<e-((i:Nat):Int).toNat
    omega
  ·exact part2 G1 (bG.trans (Kb.of_le l1)) s1' fun _ hc=>of_decide_eq_false hq (hr.2 hc)
 ·have hgt:=of_decide_eq_false hb
  exact part2 G bG sG fun h=>by omega
theorem partEq_ok (E:SE B b N cmp c dom) (h:Sq R B H b N dom L) {a e p:Nat} (hap:a≤p) (hpe:p<e) (he:e≤N)
 (k:∀ G S mid,Kb b H G→Sq R B G b N dom S→Seg a e L S→a<mid→mid≤e→(∀ i,a≤i→i<mid→LeC c (S.getD i 0) (L.getD p 0))→K (.int .i64 (mid:Nat)) G) :
 AC Tryz.prog T0 177 [sv b N,.int .i64 a,.int .i64 e,.int .i64 p,cmp] H K:=by
 have hN:=E.hN
 have hLl:=h.len
 apply F177.ac
 unfold F177.B15 F177.B14
 refine h.swap E (i:=a) (j:=p) (by omega) (by omega) rfl rfl fun G1 k1 s1=>?_
 obtain ⟨P,hP⟩:∃ P,P=L.getD p 0:=⟨_,rfl⟩
 rw [← hP] at k
 unfold F177.B13
 rw [wr (i:=a+1) (by omega) (by omega),wr (i:=e-1) (by omega) (by omega)]
 unfold F177.L2
 refine ⟨fun x0 x1 x4 x11 x12 G=>sv b N=x0∧(a:Int)=x1∧cmp=x4∧Kb b H G∧∃ (i j:Nat) (S:List Nat),x11=i∧x12=j∧a+1≤i∧i≤j+1∧j<e∧Sq R B G b N dom S∧Seg a e L S∧S.getD a 0=P∧∀ q,a<q→q<i→LeC c (S.getD q 0) P,
  fun _ _ _ x11 x12 _=>x12.toNat+1-x11.toNat,⟨rfl,rfl,rfl,k1,a+1,e-1,_,rfl,rfl,by omega,by omega,by omega,s1,swp_seg (by omega) (by omega) (by omega) (by omega) (by omega),by rw [swp_at1 (by omega) (by omega),hP],fun q h1 h2=>by omega⟩,?_⟩
 rintro x0 x1 x4 x11 x12 G ⟨rfl,rfl,rfl,bG,i,j,S,rfl,rfl,hi,hij,hje,sS,gS,hSa,hlt⟩
 have hSl:=sS.len
 unfold F177.L10
 refine ⟨fun x0 x1 x4 x11 x12 G=>sv b N=x0∧(a:Int)=x1∧cmp=x4∧(j:Int)=x12∧Kb b H G∧Sq R B G b N dom S∧∃ i':Nat,x11=i'∧i≤i'∧i'≤j+1∧∀ q,a<q→q<i'→LeC c (S.getD q 0) P,
  fun _ _ _ x11 _ _=>j+1-x11.toNat,⟨rfl,rfl,rfl,rfl,bG,sS,i,rfl,Nat.le_refl _,hij,hlt⟩,?_⟩
 clear bG sS hlt
 rintro x0 x1 x4 x11 x12 G ⟨rfl,rfl,rfl,rfl,bG,sS,i',rfl,hii,hij',hlt⟩
 have inner:∀ G,Kb b H G→Sq R B G b N dom S→(i'≤j→c P (S.getD i' 0)<0)→∀ N2:Value→Int→Value→Int→Int→AHeap→Prop,
  (∀ G' i2 j2 S2,Kb b H G'→a+1≤i2→i2≤j2+1→j2<e→Sq R B G' b N dom S2→Seg a e L S2→S2.getD a 0=P→(∀ q,a<q→q<i2→LeC c (S2.getD q 0) P)→j2+1-i2<j+1-i→N2 (sv b N) a cmp (i2:Nat) (j2:Nat) G')→
  F177.L7 K N2 (sv b N) a cmp i' j G:=by
  intro G bG sS hstop N2 hN2
  unfold F177.L7
  refine ⟨fun x0 x1 x4 x11 x12 G=>sv b N=x0∧(a:Int)=x1∧cmp=x4∧(i':Int)=x11∧Kb b H G∧Sq R B G b N dom S∧∃ j':Nat,x12=j'∧j'≤j∧i'≤j'+1,
   fun _ _ _ _ x12 _=>x12.toNat,⟨rfl,rfl,rfl,rfl,bG,sS,j,rfl,Nat.le_refl _,hij'⟩,?_⟩
  clear bG sS
  rintro x0 x1 x4 x11 x12 G ⟨rfl,rfl,rfl,rfl,bG,sS,j',rfl,hjj,hij2⟩
  have b6:∀ G,Kb b H G→Sq R B G b N dom S→(i'≤j'→LeC c (S.getD j' 0) P)→F177.B6 K N2 (sv b N) a cmp i' j' G:=by
   intro G bG sS hj2
   unfold F177.B6
   refine pif_cases (fun hb=>?_) fun hb=>?_
   ·have hgt:=of_decide_eq_true hb
    unfold F177.B1
    refine k G S i' bG sS gS (by omega) (by omega) fun q h1 h2=>?_
    by_cases e1:q=a
    ·rw [e1,hSa];exact E.ord.rfl _
    ·exact hlt q (by omega) h2
   ·have hle:=of_decide_eq_false hb
    have hlij:i'≤j':=by omega
    have hjP:=hj2 hlij
    unfold F177.B5
    refine sS.swap E (i:=i') (j:=j') (by omega) (by omega) rfl rfl fun G2 k2 s2=>?_
    unfold F177.B4
    rw [wr (i:=i'+1) (by omega) (by omega)]
    unfold F177.B3
    rw [wr (i:=j'-1) (by omega) (by omega)]
    have hne:i'≠j':=fun h=>by rw [← h] at hjP;exact hjP (hstop (by omega))
    refine hN2 G2 (i'+1) (j'-1) _ (bG.trans k2) (by omega) (by omega) (by omega) s2 (gS.trans (swp_seg (by omega) (by omega) (by omega) (by omega) (by omega))) ?_ ?_ (by omega)
    ·rw [swp_off (by omega) (by omega) (by omega) (by omega),hSa]
    ·intro q h1 h2
     by_cases e1:q=i'
     ·subst e1;rw [swp_at1 (by omega) (by omega)];exact hjP
     ·rw [swp_off (by omega) (by omega) e1 (by omega)];exact hlt q h1 (by omega)
  unfold F177.B9
  refine pif_cases (fun hb=>?_) fun hb=>?_
  ·have hle:=of_decide_eq_true hb
   refine sS.less E (i:=a) (j:=j') (by omega) (by omega) rfl rfl fun G1 r l1 s1 hr=>?_
   rw [hSa] at hr
   refine pif_cases (fun hq=>?_) fun hq=>?_
   ·unfold F177.B8
    rw [wr (i:=j'-1) (by omega) (by omega)]
    refine ⟨⟨rfl,rfl,rfl,rfl,bG.trans (Kb.of_le l1),s1,j'-1,rfl,by omega,by omega⟩,?_⟩
    show ((j'-1:Nat):Int).toNat<((j':Nat):Int).toNat
    omega
   ·exact b6 G1 (bG.trans (Kb.of_le l1)) s1 fun _ hc=>of_decide_eq_false hq (hr.2 hc)
  ·have hgt:=of_decide_eq_false hb
   exact b6 G bG sS fun h=>by omega
 have hN2:∀ G' i2 j2 S2,Kb b H G'→a+1≤i2→i2≤j2+1→j2<e→Sq R B G' b N dom S2→Seg a e L S2→S2.getD a 0=P→(∀ q,a<q→q<i2→LeC c (S2.getD q 0) P)→j2+1-i2<j+1-i→
  (sv b N=sv b N∧(a:Int)=a∧cmp=cmp∧Kb b H G'∧∃ (i j:Nat) (S:List Nat),(i2:Int)=i∧(j2:Int)=j∧a+1≤i∧i≤j+1∧j<e∧Sq R B G' b N dom S∧Seg a e L S∧S.getD a 0=P∧∀ q,a<q→q<i→LeC c (S.getD q 0) P)∧(j2:Int).toNat+1-(i2:Int).toNat<(j:Int).toNat+1-(i:Int).toNat:=
  fun G' i2 j2 S2 h1 h2 h3 h4 h5 h6 h7 h8 h9=>⟨⟨rfl,rfl,rfl,h1,i2,j2,S2,rfl,rfl,h2,h3,h4,h5,h6,h7,h8⟩,by omega⟩
 unfold F177.B12
 refine pif_cases (fun hb=>?_) fun hb=>?_
 ·have hle:=of_decide_eq_true hb
  refine sS.less E (i:=a) (j:=i') (by omega) (by omega) rfl rfl fun G1 r l1 s1 hr=>?_
  rw [hSa] at hr
  refine pif_cases (fun hq=>?_) fun hq=>?_
  ·have hn:LeC c (S.getD i' 0) P:=fun hc=>by rw [decide_eq_true (hr.2 hc)] at hq;cases hq
   unfold F177.B11
   rw [wr (i:=i'+1) (by omega) (by omega)]
   refine ⟨⟨rfl,rfl,rfl,rfl,bG.trans (Kb.of_le l1),s1,i'+1,rfl,by omega,by omega,fun q h1 h2=>?_⟩,?_⟩
   ·by_cases e1:q=i'
    ·subst e1;exact hn
    ·exact hlt q h1 (by omega)
   ·show j+1-((i'+1:Nat):Int).toNat<j+1-((i':Nat):Int).toNat
    omega
  ·exact inner G1 (bG.trans (Kb.of_le l1)) s1 (fun _=>hr.1 (by simpa using hq)) _ hN2
 ·have hgt:=of_decide_eq_false hb
  exact inner G bG sS (fun h=>by omega) _ hN2
end Go.Proofs
namespace Go.Proofs
open Go.Abs

variable {B H G G':AHeap} {b N:Nat} {L S M:List Nat} {R:List Value} {cmp:Value} {c:Nat→Nat→Int} {dom:Nat→Prop} {K:Value→AHeap→Prop}

def PreA (c:Nat→Nat→Int) (a e:Nat) (L:List Nat):Prop:=0<a→∀ q,a≤q→q<e→LeC c (L.getD (a-1) 0) (L.getD q 0)
theorem PreA.seg {a e:Nat} (h:PreA c a e L) (hs:Seg a e L S) (he:e≤L.length):PreA c a e S:=fun h0 q h1 h2=>by
 rw [hs.outD (i:=a-1) (.inl (by omega))]
 exact hs.all (d:=0) (Q:=fun x=>LeC c (L.getD (a-1) 0) x) he (h h0) q h1 h2
theorem sorted_ext {a i:Nat} (hc:Cmp c) (h:SortedIn 0 c a i S) (hn:a<i→LeC c (S.getD (i-1) 0) (S.getD i 0)):SortedIn 0 c a (i+1) S:=by
 intro p q h1 h2 h3
 by_cases e:q=i
 ·subst e
  have hn:=hn (by omega)
  by_cases e2:p=q-1
  ·rw [e2];exact hn
  ·exact hc.tr _ _ _ (h p (q-1) h1 (by omega) (by omega)) hn
 ·exact h p q h1 h2 (by omega)
theorem sorted_keep {a i:Nat} (h:SortedIn 0 c a i S) (hs:∀ q,q<i→M.getD q 0=S.getD q 0):SortedIn 0 c a i M:=fun p q h1 h2 h3=>by
 rw [hs p (by omega),hs q h3];exact h p q h1 h2 h3
theorem partIns_ok (E:SE B b N cmp c dom) (h:Sq R B H b N dom L) {a e:Nat} (ha:a<e) (he:e≤N) (hp:PreA c a e L)
 (k:∀ G S q,Kb b H G→Sq R B G b N dom S→Seg a e L S→(q=true→SortedIn 0 c a e S)→K (.bool q) G) :
 AC Tryz.prog T0 176 [sv b N,.int .i64 a,.int .i64 e,cmp] H K:=by
 have hN:=E.hN
 have hLl:=h.len
 apply F176.ac
 unfold F176.B29 F176.B28
 rw [wr (i:=a+1) (by omega) (by omega)]
 unfold F176.B27 F176.L2
 refine ⟨fun x0 x1 x2 x3 x9 x10 G=>sv b N=x0∧(a:Int)=x1∧(e:Int)=x2∧cmp=x3∧Kb b H G∧∃ (i m:Nat) (S:List Nat),x9=i∧x10=m∧m≤5∧a+1≤i∧i≤e∧Sq R B G b N dom S∧Seg a e L S∧SortedIn 0 c a i S,
  fun _ _ _ _ _ x10 _=>5-x10.toNat,⟨rfl,rfl,rfl,rfl,.refl,a+1,0,L,rfl,rfl,by omega,by omega,by omega,h,.refl,fun p q h1 h2 h3=>by omega⟩,?_⟩
 rintro x0 x1 x2 x3 x9 x10 G ⟨rfl,rfl,rfl,rfl,bG,i,m,S,rfl,rfl,hm,hi,hie,sS,gS,hS⟩
 unfold F176.B26
 refine pif_cases (fun hb=>?_) fun hb=>?_
 rotate_left
 ·unfold F176.B1
  exact k G S false bG sS gS fun h=>by cases h
 have hm5:m<5:=by have:=of_decide_eq_true hb;omega
 unfold F176.L23
 refine ⟨fun x0 x1 x2 x3 x9 x10 G=>sv b N=x0∧(a:Int)=x1∧(e:Int)=x2∧cmp=x3∧(m:Int)=x10∧Kb b H G∧Sq R B G b N dom S∧∃ i':Nat,x9=i'∧a+1≤i'∧i'≤e∧SortedIn 0 c a i' S,
  fun _ _ _ _ x9 _ _=>e-x9.toNat,⟨rfl,rfl,rfl,rfl,rfl,bG,sS,i,rfl,hi,hie,hS⟩,?_⟩
 clear hS bG sS hie hi hb
 rintro x0 x1 x2 x3 x9 x10 G ⟨rfl,rfl,rfl,rfl,rfl,bG,sS,i,rfl,hi,hie,hS⟩
 have hSl:=sS.len
 have b22:∀ G,Kb b H G→Sq R B G b N dom S→F176.B22 K (fun x0 x1 x2 x3 x9 x10 G'=>(sv b N=x0∧(a:Int)=x1∧(e:Int)=x2∧cmp=x3∧Kb b H G'∧∃ (i m:Nat) (S:List Nat),x9=i∧x10=m∧m≤5∧a+1≤i∧i≤e∧Sq R B G' b N dom S∧Seg a e L S∧SortedIn 0 c a i S)∧5-x10.toNat<5-(m:Int).toNat) (sv b N) a e cmp i m G:=by
  intro G bG sS
  unfold F176.B22
  refine pif_cases (fun hb=>?_) fun hb=>?_
  ·have he2:i=e:=by have:=beq_iff_eq.1 hb;omega
   unfold F176.B21
   exact k G S true bG sS gS fun _=>by rw [← he2];exact hS
  have hlt:i<e:=by have:=beq_eq_false_iff_ne.1 hb;omega
  unfold F176.B20
  refine pif_cases (fun hb=>?_) fun hb=>?_
  ·unfold F176.B19
   exact k G S false bG sS gS fun h=>by cases h
  unfold F176.B18
  refine sS.swap E (i:=i) (j:=i-1) (by omega) (by omega) rfl (wr (by omega) (by omega)) fun G2 k2 s2=>?_
  obtain ⟨S2,hS2⟩:∃ S2,S2=swp 0 S i (i-1):=⟨_,rfl⟩
  rw [← hS2] at s2
  have g2:Seg a e L S2:=by rw [hS2];exact gS.trans (swp_seg (by omega) (by omega) (by omega) (by omega) (by omega))
  have k3:∀ G S',Kb b H G→Sq R B G b N dom S'→Seg a e L S'→SortedIn 0 c a i S'→F176.B3 K (fun x0 x1 x2 x3 x9 x10 G'=>(sv b N=x0∧(a:Int)=x1∧(e:Int)=x2∧cmp=x3∧Kb b H G'∧∃ (i m:Nat) (S:List Nat),x9=i∧x10=m∧m≤5∧a+1≤i∧i≤e∧Sq R B G' b N dom S∧Seg a e L S∧SortedIn 0 c a i S)∧5-x10.toNat<5-(m:Int).toNat) (sv b N) a e cmp i m G:=by
   intro G S' h1 h2 h3 h4
   unfold F176.B3
   rw [wr (i:=m+1) (by omega) (by omega)]
   refine ⟨⟨rfl,rfl,rfl,rfl,h1,i,m+1,S',rfl,rfl,by omega,hi,hie,h2,h3,h4⟩,?_⟩
   show 5-((m+1:Nat):Int).toNat<5-((m:Nat):Int).toNat
   omega
  have k10:∀ G S',Kb b H G→Sq R B G b N dom S'→Seg a e L S'→SortedIn 0 c a i S'→F176.B10 K (fun x0 x1 x2 x3 x9 x10 G'=>(sv b N=x0∧(a:Int)=x1∧(e:Int)=x2∧cmp=x3∧Kb b H G'∧∃ (i m:Nat) (S:List Nat),x9=i∧x10=m∧m≤5∧a+1≤i∧i≤e∧Sq R B G' b N dom S∧Seg a e L S∧SortedIn 0 c a i S)∧5-x10.toNat<5-(m:Int).toNat) (sv b N) a e cmp i m G:=by
   intro G S' h1 h2 h3 h4
   unfold F176.B10
   refine pif_cases (fun hb=>?_) fun hb=>k3 G S' h1 h2 h3 h4
   unfold F176.B9
   rw [wr (i:=i+1) (by omega) (by omega)]
   unfold F176.L4
   refine ⟨fun x0 x1 x2 x3 x9 x10 x12 G=>sv b N=x0∧(a:Int)=x1∧(e:Int)=x2∧cmp=x3∧(i:Int)=x9∧(m:Int)=x10∧Kb b H G∧∃ (j:Nat) (S':List Nat),x12=j∧i+1≤j∧j≤e∧Sq R B G b N dom S'∧Seg a e L S'∧SortedIn 0 c a i S',
    fun _ _ _ _ _ _ x12 _=>e-x12.toNat,⟨rfl,rfl,rfl,rfl,rfl,rfl,h1,i+1,S',rfl,Nat.le_refl _,by omega,h2,h3,h4⟩,?_⟩
   clear h1 h2 h3 h4
   rintro x0 x1 x2 x3 x9 x10 x12 G ⟨rfl,rfl,rfl,rfl,rfl,rfl,h1,j,S',rfl,hj,hje,h2,h3,h4⟩
   have hSl':=h2.len
   unfold F176.B8
   refine pif_cases (fun hb=>?_) fun hb=>k3 G S' h1 h2 h3 h4
   have hjl:j<e:=by have:=of_decide_eq_true hb;omega
   unfold F176.B7
   refine h2.less E (i:=j) (j:=j-1) (by omega) (by omega) rfl (wr (by omega) (by omega)) fun G3 r l3 s3 hr=>pif_cases (fun hq=>?_) fun hq=>?_
   ·exact k3 G3 S' (h1.trans (Kb.of_le l3)) s3 h3 h4
   ·unfold F176.B6
    refine s3.swap E (i:=j) (j:=j-1) (by omega) (by omega) rfl (wr (by omega) (by omega)) fun G4 k4 s4=>?_
    unfold F176.B5
    rw [wr (i:=j+1) (by omega) (by omega)]
    refine ⟨⟨rfl,rfl,rfl,rfl,rfl,rfl,h1.trans ((Kb.of_le l3).trans k4),j+1,_,rfl,by omega,by omega,s4,h3.trans (swp_seg (by omega) (by omega) (by omega) (by omega) (by omega)),sorted_keep h4 fun q hq=>swp_off (by omega) (by omega) (by omega) (by omega)⟩,?_⟩
    show e-((j+1:Nat):Int).toNat<e-((j:Nat):Int).toNat
    omega
  unfold F176.B17
  rw [wr (i:=i-a) (by omega) (by omega)]
  refine pif_cases (fun hb=>?_) fun hb=>?_
  rotate_left
  ·have hia:i=a+1:=by have:=of_decide_eq_false hb;omega
   exact k10 G2 S2 (bG.trans k2) s2 g2 fun p q h1 h2 h3=>by omega
  unfold F176.B16
  rw [wr (i:=i-1) (by omega) (by omega)]
  unfold F176.L11
  refine ⟨fun x0 x1 x2 x3 x9 x10 x11 G=>sv b N=x0∧(a:Int)=x1∧(e:Int)=x2∧cmp=x3∧(i:Int)=x9∧(m:Int)=x10∧Kb b H G∧∃ (j:Nat) (S':List Nat),x11=j∧a≤j∧j≤i-1∧Sq R B G b N dom S'∧Seg a e L S'∧SortedTo 0 c S' a (i-1) j,
   fun _ _ _ _ _ _ x11 _=>x11.toNat,⟨rfl,rfl,rfl,rfl,rfl,rfl,bG.trans k2,i-1,S2,rfl,by omega,Nat.le_refl _,s2,g2,fun p q h1 h2 h3 h4=>?_⟩,?_⟩
  ·rw [hS2,swp_off (by omega) (by omega) (by omega) (by omega),swp_off (by omega) (by omega) (by omega) (by omega)]
   exact hS p q h1 h2 (by omega)
  clear s2 g2 k2 hb
  rintro x0 x1 x2 x3 x9 x10 x11 G ⟨rfl,rfl,rfl,rfl,rfl,rfl,h1,j,S',rfl,haj,hj,h2,h3,h4⟩
  have hSl':=h2.len
  have stop:∀ G,Kb b H G→Sq R B G b N dom S'→(j≤a∨LeC c (S'.getD (j-1) 0) (S'.getD j 0))→F176.B10 K (fun x0 x1 x2 x3 x9 x10 G'=>(sv b N=x0∧(a:Int)=x1∧(e:Int)=x2∧cmp=x3∧Kb b H G'∧∃ (i m:Nat) (S:List Nat),x9=i∧x10=m∧m≤5∧a+1≤i∧i≤e∧Sq R B G' b N dom S∧Seg a e L S∧SortedIn 0 c a i S)∧5-x10.toNat<5-(m:Int).toNat) (sv b N) a e cmp i m G:=by
   intro G h1 h2 hst
   have:=h4.stop E.ord hst
   rw [show i-1+1=i by omega] at this
   exact k10 G S' h1 h2 h3 this
  unfold F176.B15
  refine pif_cases (fun hb=>?_) fun hb=>stop G h1 h2 (.inl (by have:=of_decide_eq_false hb;omega))
  have hj1:1≤j:=by have:=of_decide_eq_true hb;omega
  unfold F176.B14
  refine h2.less E (i:=j) (j:=j-1) (by omega) (by omega) rfl (wr (by omega) (by omega)) fun G3 r l3 s3 hr=>pif_cases (fun hq=>?_) fun hq=>?_
  ·exact stop G3 (h1.trans (Kb.of_le l3)) s3 (.inr fun hc=>by rw [decide_eq_true (hr.2 hc)] at hq;cases hq)
  ·have hc:=hr.1 (by simpa using hq)
   have hja:a<j:=by
    rcases Nat.lt_or_ge a j with h|h
    ·exact h
    ·have hja:j=a:=by omega
     have:=(hp.seg h3 (by omega)) (by omega) a (Nat.le_refl _) (by omega)
     rw [← hja] at this
     exact absurd hc this
   unfold F176.B13
   refine s3.swap E (i:=j) (j:=j-1) (by omega) (by omega) rfl (wr (by omega) (by omega)) fun G4 k4 s4=>?_
   unfold F176.B12
   rw [wr (i:=j-1) (by omega) (by omega)]
   refine ⟨⟨rfl,rfl,rfl,rfl,rfl,rfl,h1.trans ((Kb.of_le l3).trans k4),j-1,_,rfl,by omega,by omega,s4,h3.trans (swp_seg (by omega) (by omega) (by omega) (by omega) (by omega)),h4.step E.ord hja (by omega) hj hc⟩,?_⟩
   show ((j-1:Nat):Int).toNat<((j:Nat):Int).toNat
   omega
 unfold F176.B25
 refine pif_cases (fun hb=>?_) fun hb=>b22 G bG sS
 have hil:=of_decide_eq_true hb
 refine sS.less E (i:=i) (j:=i-1) (by omega) (by omega) rfl (wr (by omega) (by omega)) fun G3 r l3 s3 hr=>pif_cases (fun hq=>?_) fun hq=>?_
 ·unfold F176.B24
  rw [wr (i:=i+1) (by omega) (by omega)]
  refine ⟨⟨rfl,rfl,rfl,rfl,rfl,bG.trans (Kb.of_le l3),s3,i+1,rfl,by omega,by omega,sorted_ext E.ord hS fun _ hc=>by rw [decide_eq_true (hr.2 hc)] at hq;cases hq⟩,?_⟩
  show e-((i+1:Nat):Int).toNat<e-((i:Nat):Int).toNat
  omega
 ·exact b22 G3 (bG.trans (Kb.of_le l3)) s3
theorem pdqC_ok (E:SE B b N cmp c dom):∀ (n:Nat) {H:AHeap} {L:List Nat} {a e:Nat} {lim:Int} {K:Value→AHeap→Prop},e-a≤n→Sq R B H b N dom L→a≤e→e≤N→PreA c a e L→
 (∀ G S,Kb b H G→Sq R B G b N dom S→Seg a e L S→SortedIn 0 c a e S→K (.tuple ⟨[]⟩) G)→
 AC Tryz.prog T0 122 [sv b N,.int .i64 a,.int .i64 e,.int .i64 lim,cmp] H K:=by
 intro n
 induction n with
 | zero=>
  intro H L a e lim K hn h ha he hp k
  have hN:=E.hN
  apply F122.ac
  unfold F122.B32 F122.B31 F122.L1
  refine ⟨fun x0 x1 x2 x3 x4 x10 x11 G=>sv b N=x0∧(a:Int)=x1∧(e:Int)=x2∧cmp=x4∧H=G,fun _ _ _ _ _ _ _ _=>0,⟨rfl,rfl,rfl,rfl,rfl⟩,?_⟩
  rintro x0 x1 x2 x3 x4 x10 x11 G ⟨rfl,rfl,rfl,rfl,rfl⟩
  unfold F122.B30
  rw [wr (i:=e-a) (by omega) (by omega)]
  unfold F122.B29
  refine pif_t (decide_eq_true (by omega)) ?_
  unfold F122.B28
  exact insC_ok E h ha he fun G S k1 s1 g1 h1=>asTup_k (k G S k1 s1 g1 h1)
 | succ n ih=>
  intro H L a e lim K hn h ha he hp k
  have hN:=E.hN
  have hLl:=h.len
  apply F122.ac
  unfold F122.B32 F122.B31 F122.L1
  refine ⟨fun x0 x1 x2 x3 x4 x10 x11 G=>sv b N=x0∧cmp=x4∧Kb b H G∧∃ (a' e':Nat) (S:List Nat),x1=a'∧x2=e'∧a≤a'∧a'≤e'∧e'≤e∧Sq R B G b N dom S∧Seg a e L S∧SortedBut 0 c a e a' e' S,
   fun _ x1 x2 _ _ _ _ _=>x2.toNat-x1.toNat,⟨rfl,rfl,.refl,a,e,L,rfl,rfl,Nat.le_refl _,ha,Nat.le_refl _,h,.refl,fun i j h1 h2 h3 h4=>by omega⟩,?_⟩
  rintro x0 x1 x2 lm x4 x10 x11 G ⟨rfl,rfl,bG,a',e',S,rfl,rfl,haa,hae,hee,sS,gS,bS⟩
  have hSl:=sS.len
  have step:∀ {S S2:List Nat},SortedBut 0 c a e a' e' S→S.length=N→Seg a' e' S S2→SortedBut 0 c a e a' e' S2:=fun h1 h2 h3=>h1.seg h3 haa hee (by omega)
  have preA:∀ {S:List Nat},Seg a e L S→SortedBut 0 c a e a' e' S→PreA c a' e' S:=fun {S} g h h0 q h1 h2=>by
   by_cases e1:a'=a
   ·rw [e1] at h1 h0 ⊢
    exact (hp.seg g (by omega)) h0 q h1 (by omega)
   ·exact h (a'-1) q (by omega) (by omega) (by omega) (.inl (by omega))
  unfold F122.B30
  rw [wr (i:=e'-a') (by omega) (by omega)]
  unfold F122.B29
  refine pif_cases (fun hb=>?_) fun hb=>?_
  ·unfold F122.B28
   exact insC_ok E sS hae (by omega) fun G2 S2 k2 s2 g2 h2=>asTup_k (k G2 S2 (bG.trans k2) s2 (gS.trans (g2.mono haa hee)) ((step bS hSl g2).fin h2))
  have h12:=of_decide_eq_false hb
  unfold F122.B27
  refine pif_cases (fun hb=>?_) fun hb=>?_
  ·unfold F122.B26
   exact heapC_ok E sS hae (by omega) fun G2 S2 k2 s2 g2 h2=>asTup_k (k G2 S2 (bG.trans k2) s2 (gS.trans (g2.mono haa hee)) ((step bS hSl g2).fin h2))
  have hN1:∀ (y1 y2:Int) (lm:Int) (w1 w2:Bool) G S (a2 e2:Nat),y1=a2→y2=e2→a≤a2→a2≤e2→e2≤e→Kb b H G→Sq R B G b N dom S→Seg a e L S→SortedBut 0 c a e a2 e2 S→e2-a2<e'-a'→
   (sv b N=sv b N∧cmp=cmp∧Kb b H G∧∃ (a' e':Nat) (S:List Nat),y1=a'∧y2=e'∧a≤a'∧a'≤e'∧e'≤e∧Sq R B G b N dom S∧Seg a e L S∧SortedBut 0 c a e a' e' S)∧y2.toNat-y1.toNat<((e':Nat):Int).toNat-((a':Nat):Int).toNat:=by
   intro y1 y2 lm w1 w2 G S a2 e2 h1 h2 h3 h4 h5 h6 h7 h8 h9 h10
   exact ⟨⟨rfl,rfl,h6,a2,e2,S,h1,h2,h3,h4,h5,h7,h8,h9⟩,by omega⟩
  have b12:∀ (lm:Int) (p:Nat) G S,a'≤p→p<e'→Kb b H G→Sq R B G b N dom S→Seg a e L S→SortedBut 0 c a e a' e' S→F122.B12 K (fun x0 x1 x2 x3 x4 x10 x11 G=>(sv b N=x0∧cmp=x4∧Kb b H G∧∃ (a' e':Nat) (S:List Nat),x1=a'∧x2=e'∧a≤a'∧a'≤e'∧e'≤e∧Sq R B G b N dom S∧Seg a e L S∧SortedBut 0 c a e a' e' S)∧x2.toNat-x1.toNat<((e':Nat):Int).toNat-((a':Nat):Int).toNat) (sv b N) a' e' lm cmp ((e'-a':Nat):Int) p G:=by
   intro lm p G S hp1 hp2 kG sS gS bS
   have hSl:=sS.len
   unfold F122.B12
   refine partC_ok E sS hp1 hp2 (by omega) fun G2 S2 mid q k2 s2 g2 hm1 hm2 hlo hhi=>tup2_mk (asI_mk (asB_mk ?_))
   have b2:=step bS hSl g2
   have gg2:=gS.trans (g2.mono haa hee)
   have hS2l:=s2.len
   -- everything left of the pivot is at most it, everything right of it at least
   have hsplit:∀ i j,a'≤i→i<j→j<e'→(i<mid∧mid≤j∨i≤mid∧mid<j)→LeC c (S2.getD i 0) (S2.getD j 0):=by
    intro i j h1 h2 h3 h4
    by_cases e1:i=mid
    ·rw [e1];exact hhi j (by omega) h3
    ·by_cases e2:j=mid
     ·rw [e2];exact hlo i h1 (by omega)
     ·exact E.ord.tr _ _ _ (hlo i h1 (by omega)) (hhi j (by omega) h3)
   unfold F122.B11 F122.B10
   rw [wr (i:=mid-a') (by omega) (by omega),wr (i:=e'-mid) (by omega) (by omega)]
   unfold F122.B9 F122.B8
   refine pif_cases (fun hb=>?_) fun hb=>?_
   ·unfold F122.B4 F122.B3
    refine ih (L:=S2) (by omega) s2 hm1 (by omega) (fun h0 q h1 h2=>preA gg2 b2 h0 q h1 (by omega)) fun G3 S3 k3 s3 g3 h3=>asTup_k ?_
    unfold F122.B2
    refine hN1 _ _ lm false false G3 S3 (mid+1) e' (wr (by omega) (by omega)) rfl (by omega) (by omega) hee (kG.trans (k2.trans k3)) s3 (gg2.trans (g3.mono haa (by omega))) ?_ (by omega)
    have b3:=step b2 hS2l (g3.mono (Nat.le_refl _) (by omega))
    have hS3l:=s3.len
    intro i j h1 h2 h4 h5
    by_cases hin:a'≤i∧j<e'
    ·by_cases hj:j<mid
     ·exact h3 i j hin.1 h2 hj
     ·-- j at least the pivot's place
      have hj':S3.getD j 0=S2.getD j 0:=g3.outD (.inr (by omega))
      by_cases hi:i<mid
      ·rw [hj']
       exact g3.all (d:=0) (Q:=fun x=>LeC c x (S2.getD j 0)) (by omega) (fun m hm1 hm2=>hsplit m j hm1 (by omega) hin.2 (.inl ⟨hm2,by omega⟩)) i hin.1 hi
      ·rw [hj',g3.outD (i:=i) (.inr (by omega))]
       exact hsplit i j hin.1 h2 hin.2 (.inr ⟨by omega,by omega⟩)
    ·exact b3 i j h1 h2 h4 (by omega)
   ·unfold F122.B7 F122.B6
    rw [wr (i:=mid+1) (by omega) (by omega)]
    refine ih (L:=S2) (by omega) s2 (by omega) (by omega) (fun h0 q h1 h2=>by rw [show mid+1-1=mid by omega];exact hhi q (by omega) h2) fun G3 S3 k3 s3 g3 h3=>asTup_k ?_
    unfold F122.B5
    refine hN1 _ _ lm false false G3 S3 a' mid rfl rfl haa hm1 (by omega) (kG.trans (k2.trans k3)) s3 (gg2.trans (g3.mono (by omega) hee)) ?_ (by omega)
    have b3:=step b2 hS2l (g3.mono (by omega) (Nat.le_refl _))
    have hS3l:=s3.len
    intro i j h1 h2 h4 h5
    by_cases hin:a'≤i∧j<e'
    ·by_cases hi:mid<i
     ·exact h3 i j (by omega) h2 hin.2
     ·have hi':S3.getD i 0=S2.getD i 0:=g3.outD (.inl (by omega))
      by_cases hj:mid<j
      ·rw [hi']
       exact g3.all (d:=0) (Q:=fun x=>LeC c (S2.getD i 0) x) (by omega) (fun m hm1 hm2=>hsplit i m hin.1 (by omega) hm2 (.inr ⟨by omega,by omega⟩)) j (by omega) hin.2
      ·rw [hi',g3.outD (i:=j) (.inl (by omega))]
       exact hsplit i j hin.1 h2 hin.2 (.inl ⟨by omega,by omega⟩)
    ·exact b3 i j h1 h2 h4 (by omega)
  have b15:∀ (lm:Int) (w1 w2:Bool) (p:Nat) G S,a'≤p→p<e'→Kb b H G→Sq R B G b N dom S→Seg a e L S→SortedBut 0 c a e a' e' S→F122.B15 K (fun x0 x1 x2 x3 x4 x10 x11 G=>(sv b N=x0∧cmp=x4∧Kb b H G∧∃ (a' e':Nat) (S:List Nat),x1=a'∧x2=e'∧a≤a'∧a'≤e'∧e'≤e∧Sq R B G b N dom S∧Seg a e L S∧SortedBut 0 c a e a' e' S)∧x2.toNat-x1.toNat<((e':Nat):Int).toNat-((a':Nat):Int).toNat) (sv b N) a' e' lm cmp w1 w2 ((e'-a':Nat):Int) p G:=by
   intro lm w1 w2 p G S hp1 hp2 kG sS gS bS
   have hSl:=sS.len
   unfold F122.B15
   refine pif_cases (fun hb=>?_) fun hb=>b12 lm p G S hp1 hp2 kG sS gS bS
   have ha0:0<a':=by have:=of_decide_eq_true hb;omega
   have hpre:=preA gS bS ha0
   refine sS.less E (i:=a'-1) (j:=p) (by omega) (by omega) (wr (by omega) (by omega)) rfl fun G1 r l1 s1 hr=>pif_cases (fun hq=>?_) fun hq=>?_
   ·have hn:¬ c (S.getD (a'-1) 0) (S.getD p 0)<0:=fun hc=>by rw [decide_eq_true (hr.2 hc)] at hq;cases hq
    unfold F122.B14
    refine partEq_ok E s1 hp1 hp2 (by omega) fun G2 S2 mid k2 s2 g2 hm1 hm2 hlo=>asI_mk ?_
    have b2:=step bS hSl g2
    have hS2l:=s2.len
    unfold F122.B13
    refine hN1 _ _ lm w1 w2 G2 S2 mid e' rfl rfl (by omega) hm2 hee (kG.trans ((Kb.of_le l1).trans k2)) s2 (gS.trans (g2.mono haa hee)) (fun i j h1 h2 h4 h5=>?_) (by omega)
    by_cases hin:a'≤i∧j<e'
    ·have hj:LeC c (S.getD (a'-1) 0) (S2.getD j 0):=g2.all (d:=0) (Q:=fun x=>LeC c (S.getD (a'-1) 0) x) (by omega) hpre j (by omega) hin.2
     exact E.ord.tr _ _ _ (hlo i hin.1 (by omega)) (E.ord.tr _ _ _ hn hj)
    ·exact b2 i j h1 h2 h4 (by omega)
   ·exact b12 lm p G1 S hp1 hp2 (kG.trans (Kb.of_le l1)) s1 gS bS
  have b17:∀ (lm:Int) (w1 w2:Bool) (p:Nat) (hint:Int) G S,a'≤p→p<e'→Kb b H G→Sq R B G b N dom S→Seg a e L S→SortedBut 0 c a e a' e' S→F122.B17 K (fun x0 x1 x2 x3 x4 x10 x11 G=>(sv b N=x0∧cmp=x4∧Kb b H G∧∃ (a' e':Nat) (S:List Nat),x1=a'∧x2=e'∧a≤a'∧a'≤e'∧e'≤e∧Sq R B G b N dom S∧Seg a e L S∧SortedBut 0 c a e a' e' S)∧x2.toNat-x1.toNat<((e':Nat):Int).toNat-((a':Nat):Int).toNat) (sv b N) a' e' lm cmp w1 w2 ((e'-a':Nat):Int) p hint G:=by
   intro lm w1 w2 p hint G S hp1 hp2 kG sS gS bS
   have hSl:=sS.len
   have d:=b15 lm w1 w2 p G S hp1 hp2 kG sS gS bS
   unfold F122.B17
   refine pif_cases (fun _=>pif_cases (fun _=>pif_cases (fun _=>?_) fun _=>d) fun _=>d) fun _=>d
   unfold F122.B16
   refine partIns_ok E sS (by omega) (by omega) (preA gS bS) fun G2 S2 q k2 s2 g2 h2=>asB_mk (pif_cases (fun hq=>?_) fun hq=>?_)
   ·exact k G2 S2 (kG.trans k2) s2 (gS.trans (g2.mono haa hee)) ((step bS hSl g2).fin (h2 hq))
   ·exact b15 lm w1 w2 p G2 S2 hp1 hp2 (kG.trans k2) s2 (gS.trans (g2.mono haa hee)) (step bS hSl g2)
  have b22:∀ (lm:Int) (w1 w2:Bool) G S,Kb b H G→Sq R B G b N dom S→Seg a e L S→SortedBut 0 c a e a' e' S→F122.B22 K (fun x0 x1 x2 x3 x4 x10 x11 G=>(sv b N=x0∧cmp=x4∧Kb b H G∧∃ (a' e':Nat) (S:List Nat),x1=a'∧x2=e'∧a≤a'∧a'≤e'∧e'≤e∧Sq R B G b N dom S∧Seg a e L S∧SortedBut 0 c a e a' e' S)∧x2.toNat-x1.toNat<((e':Nat):Int).toNat-((a':Nat):Int).toNat) (sv b N) a' e' lm cmp w1 w2 ((e'-a':Nat):Int) G:=by
   intro lm w1 w2 G S kG sS gS bS
   have hSl:=sS.len
   unfold F122.B22
   refine pivotC_ok E sS (by omega) (by omega) fun G2 p hint l2 hp1 hp2=>tup2_mk (asI_mk (asI_mk ?_))
   unfold F122.B21
   refine pif_cases (fun hb=>?_) fun hb=>b17 lm w1 w2 p hint G2 S hp1 hp2 (kG.trans (Kb.of_le l2)) (sS.le l2) gS bS
   unfold F122.B20
   refine revC_ok E (sS.le l2) (by omega) (by omega) fun G3 S3 k3 s3 g3=>asTup_k ?_
   unfold F122.B19
   rw [wr (x:=((e':Nat):Int)-1) (i:=e'-1) (by omega) (by omega),wr (x:=((p:Nat):Int)-(a':Nat)) (i:=p-a') (by omega) (by omega),wr (i:=e'-1-(p-a')) (by omega) (by omega)]
   unfold F122.B18
   exact b17 lm w1 w2 _ 1 G3 S3 (by omega) (by omega) (kG.trans ((Kb.of_le l2).trans k3)) s3 (gS.trans (g3.mono haa hee)) (step bS hSl g3)
  unfold F122.B25
  refine pif_cases (fun hb=>?_) fun hb=>b22 lm x10 x11 G S bG sS gS bS
  unfold F122.B24
  refine breakC_ok E sS (by omega) (by omega) fun G2 S2 k2 s2 g2=>asTup_k ?_
  unfold F122.B23
  exact b22 _ x10 x11 G2 S2 (bG.trans k2) s2 (gS.trans (g2.mono haa hee)) (step bS hSl g2)
theorem sortFuncC_ok (E:SE B b N cmp c dom) (h:Sq R B H b N dom L) (k:∀ G S,Kb b H G→Sq R B G b N dom S→S.Perm L→SortedIn 0 c 0 N S→K (.tuple ⟨[]⟩) G) :
 AC Tryz.prog T0 70 [sv b N,cmp] H K:=by
 have hN:=E.hN
 apply F70.ac
 unfold F70.B2
 refine lenK_of ?_
 unfold F70.B1
 rw [w64id (by omega)]
 refine bitsLen_ok (by omega) fun x _ _ _=>asI_mk ?_
 exact pdqC_ok E N (a:=0) (by omega) h (by omega) (Nat.le_refl _) (fun h=>absurd h (by omega)) fun G S k1 s1 g1 h1=>asTup_k (k G S k1 s1 g1.perm h1)
end Go.Proofs
namespace Go.Proofs
open Go.Abs

variable {H G B:AHeap} {v u f:Value} {l m:List Int} {es fs:List (Int × Int)} {K:Value→AHeap→Prop} {n:Int} {L A:List Nat}

theorem clr_own {b o k c:Nat} {cs:List Value} {K:AHeap→Prop} (ho:Own H b 55 cs) (hk:0<k) (hl:o+k≤cs.length) (h:∀ G R,But b H G→o+R.length=cs.length→Own G b 55 (cs.take o++R)→K G) :
 clrK T0 55 H (.slice (some ⟨b,o,none⟩) k c) K:=by
 have e:T0 55=some tiSet:=by kernel_rfl
 have hz:zeroK tiSet=fun K=>K [.int .u64 0]:=by kernel_rfl
 have hs:tiSet.size=1:=by kernel_rfl
 have hb:=ho.lt
 unfold clrK
 rw [e]
 refine .inr ⟨b,o,k,c,cs,rfl,hk,ho,by rw [hs];omega,?_⟩
 rw [hz]
 refine h _ ((List.replicate k [Value.int .u64 0]).flatten++cs.drop (o+k*tiSet.size)) ⟨by simp,fun q hq=>by rw [List.getElem?_set_ne (fun h=>hq h.symm)]⟩ ?_ ?_
 ·rw [hs];simp [List.length_flatten];omega
 unfold Own
 rw [List.getElem?_set_self hb,List.append_assoc]
theorem indexX_ok {p:Nat→Bool} {Z:List Nat} {m0:Nat} (h:Sl m0 H v 55 1 (LU Z)) (hl:Z.length≤4611686018427387904) (hf:∀ e∈Z,Cl H f (.int .u64 (e:Nat)) (p e))
 (k0:∀ G,H.le G→(∀ e∈Z,p e=false)→K (.int .i64 (-1)) G) (k1:∀ (r:Nat) G,H.le G→r<Z.length→p (Z.getD r 0)=true→(∀ j,j<r→p (Z.getD j 0)=false)→K (.int .i64 r) G) :
 AC Tryz.prog T0 121 [v,f] H K:=by
 apply F121.ac
 unfold F121.B9 F121.B8
 refine h.len (by decide) (n:=Z.length) (by simp) ?_
 unfold F121.L2
 refine ⟨fun x0 x1 x7 x8 G=>v=x0∧f=x1∧(Z.length:Int)=x7∧H.le G∧∃ n:Nat,x8=n∧n≤Z.length∧∀ i:Nat,i<n→p (Z.getD i 0)=false,fun _ _ _ x8 _=>Z.length-x8.toNat,⟨rfl,rfl,rfl,AHeap.le_refl _,0,rfl,by omega,fun i hi=>absurd hi (by omega)⟩,?_⟩
 rintro x0 x1 x7 x8 G ⟨rfl,rfl,rfl,hG,n,rfl,hn',hp⟩
 unfold F121.B7
 refine pif_cases (fun hb=>?_) fun hb=>?_
 ·have hn:n<Z.length:=by have:=of_decide_eq_true hb;omega
  unfold F121.B6 F121.B5
  refine Sl_rdI (h.le hG) (by omega) (by simp;omega) (by rw [Int.toNat_natCast];exact LU_get hn) ?_
  rw [getD_of hn]
  refine hf Z[n] (List.getElem_mem hn) G hG _ fun G2 hG2=>asB_mk (pif_cases (fun hb=>?_) fun hb=>?_)
  ·unfold F121.B4
   exact k1 n _ (AHeap.le_trans hG hG2) hn (by rw [getD_of hn];exact hb) hp
  ·unfold F121.B3
   rw [wrap_id (by omega) (by omega)]
   refine ⟨⟨rfl,rfl,rfl,AHeap.le_trans hG hG2,n+1,by omega,by omega,fun i hi=>?_⟩,by simp;omega⟩
   by_cases he:i=n
   ·subst he;rw [getD_of hn];exact hb
   ·exact hp i (by omega)
 ·have hge:n=Z.length:=by have:=of_decide_eq_false hb;omega
  unfold F121.B1
  refine k0 _ hG fun e he=>?_
  obtain ⟨i,hi,rfl⟩:=List.getElem_of_mem he
  have:=hp i (by omega)
  rwa [getD_of hi] at this
theorem LU_put (L:List Nat) (i x:Nat):(LU L).set i (.int .u64 (x:Nat))=LU (L.set i x):=List.map_set.symm
theorem filter_take {p:Nat→Bool} {j:Nat} (hj:j<L.length):(L.take (j+1)).filter p=(L.take j).filter p++if p (L.getD j 0) then [L.getD j 0] else []:=by
 rw [List.take_succ_eq_append_getElem hj,List.filter_append,getD_of hj]
 cases h:p L[j] <;> simp [h]
theorem deleteU_ok {p:Nat→Bool} {b:Nat} (hB:B.le H) (hb:B.length≤b) (ho:Own H b 55 (LU L)) (hl:L.length≤1048576) (hf:∀ e∈L,Cl B f (.int .u64 (e:Nat)) (p e))
 (k:∀ G R,Kb b H G→Own G b 55 (LU (L.filter fun x=>!p x)++R)→K (sv b (L.filter fun x=>!p x).length) G) :
 AC Tryz.prog T0 68 [sv b L.length,f] H K:=by
 apply F68.ac
 unfold F68.B14 F68.B13
 have hS:Sl 0 H (sv b L.length) 55 1 (LU L):=Fresh.sl (.inr ⟨b,L.length,Nat.zero_le _,rfl,ho,by simp⟩)
 refine indexX_ok hS (by omega) (fun e he=>(hf e he).le hB) (fun G lG hp=>asI_mk ?_) fun r G lG hr hp hn=>asI_mk ?_
 ·have e:(L.filter fun x=>!p x)=L:=List.filter_eq_self.2 fun x hx=>by rw [hp x hx];rfl
  rw [e] at k
  unfold F68.B12
  refine pif_t (by decide) ?_
  unfold F68.B11
  exact k G [] (.of_le lG) (by simpa using ho.le lG)
 ·unfold F68.B12
  refine pif_f (by simp) ?_
  unfold F68.B10
  rw [wrap_id (by omega) (by omega)]
  have hfr:(L.take r).filter (fun x=>!p x)=L.take r:=List.filter_eq_self.2 fun x hx=>by
   obtain ⟨i,hi,rfl⟩:=List.getElem_of_mem hx
   rw [List.length_take] at hi
   have:=hn i (by omega)
   rw [List.getElem_take]
   rw [getD_of (by omega)] at this
   rw [this];rfl
  unfold F68.L3
  refine ⟨fun x0 x1 x5 x6 G=>sv b L.length=x0∧f=x1∧Kb b H G∧∃ (i j:Nat) (C:List Nat),x5=i∧x6=j∧i<j∧j≤L.length∧C.length=L.length∧C.take i=(L.take j).filter (fun x=>!p x)∧C.drop j=L.drop j∧Own G b 55 (LU C),fun _ _ _ x6 _=>L.length-x6.toNat,
   ⟨rfl,rfl,.of_le lG,r,r+1,L,rfl,by omega,by omega,by omega,rfl,by rw [filter_take hr,hfr,hp];simp,rfl,ho.le lG⟩,?_⟩
  rintro x0 x1 x5 x6 G2 ⟨rfl,rfl,kb,i,j,C,rfl,rfl,hij,hj,hC,h1,h2,ho2⟩
  have hBG:=kb.le hB hb
  have hi':i=((L.take j).filter fun x=>!p x).length:=by rw [← h1,List.length_take];omega
  unfold F68.B9
  refine lenK_of (pif_cases (fun hb'=>?_) fun hb'=>?_)
  ·have hjl:j<L.length:=by have:=of_decide_eq_true hb';omega
   have hCj:C.getD j 0=L.getD j 0:=by
    rw [getD_of (by omega),getD_of hjl]
    have:=congrArg (·[0]?) h2
    simp only [List.getElem?_drop,Nat.add_zero] at this
    rw [List.getElem?_eq_getElem (by omega),List.getElem?_eq_getElem hjl] at this
    exact Option.some.inj this
   unfold F68.B8
   refine own_idx (by omega) (by omega) (ldI_own ho2 (by rw [Int.toNat_natCast];exact LU_get (by omega)) ?_)
   rw [hCj]
   unfold F68.B7
   have hm:L.getD j 0∈L:=by rw [getD_of hjl];exact List.getElem_mem _
   refine hf _ hm G2 hBG _ fun G3 l3=>asB_mk (pif_cases (fun hq=>?_) fun hq=>?_)
   ·have hpj:p (L.getD j 0)=false:=by simpa using hq
    unfold F68.B6
    refine own_idx (by omega) (by omega) (stK_1 (ho2.le l3) (by simp;omega) rfl fun G4 b4 o4=>?_)
    rw [Int.toNat_natCast,LU_put] at o4
    unfold F68.B5 F68.B4
    rw [wrap_id (by omega) (by omega),wrap_id (by omega) (by omega)]
    refine ⟨⟨rfl,rfl,(kb.trans (.of_le l3)).trans b4.kb,i+1,j+1,C.set i (L.getD j 0),by omega,by omega,by omega,by omega,by simpa using hC,?_,?_,o4⟩,by simp;omega⟩
    ·rw [filter_take hjl,hpj,← h1,List.take_set,List.take_succ_eq_append_getElem (show i<C.length by omega),List.set_append_right _ _ (by rw [List.length_take];omega)]
     simp [Nat.min_eq_left (show i≤C.length by omega)]
    ·rw [List.drop_set_of_lt (by omega)]
     have:=congrArg (List.drop 1) h2
     simpa [List.drop_drop,Nat.add_comm] using this
   ·have hpj:p (L.getD j 0)=true:=by simpa using hq
    unfold F68.B4
    rw [wrap_id (by omega) (by omega)]
    refine ⟨⟨rfl,rfl,kb.trans (.of_le l3),i,j+1,C,rfl,by omega,by omega,by omega,hC,?_,?_,ho2.le l3⟩,by simp;omega⟩
    ·rw [filter_take hjl,hpj,← h1];simp
    ·have:=congrArg (List.drop 1) h2
     simpa [List.drop_drop,Nat.add_comm] using this
  ·have hje:j=L.length:=by have:=of_decide_eq_false hb';omega
   subst hje
   rw [List.take_length] at h1 hi'
   unfold F68.B2
   refine ⟨⟨_,_,ho2,by simp [hC]⟩,by simp,by simp;omega,by simp,?_⟩
   simp only [Int.toNat_natCast,Nat.zero_add,Nat.mul_one]
   refine clr_own (o:=i) (k:=L.length-i) ho2 (by omega) (by simp;omega) fun G3 R b3 hR o3=>?_
   unfold F68.B1
   have e3:(LU C).take i=LU (L.filter fun x=>!p x):=by rw [← h1];exact List.map_take.symm
   rw [e3] at o3
   have hRl:i+R.length=L.length:=by rw [hR];simp [hC]
   refine ⟨⟨_,_,o3,by simp;omega⟩,by simp,by simp,by simp;omega,?_⟩
   have:=k G3 R (kb.trans b3.kb) o3
   rw [← hi'] at this
   simpa using this
end Go.Proofs
namespace Go.Proofs
open Go.Abs

variable {H G B:AHeap} {v u f:Value} {l m:List Int} {es fs:List (Int × Int)} {K:Value→AHeap→Prop} {n:Int} {L A:List Nat}

theorem lexC_nil (l:List Int):lexC l []=if 0<l.length then 1 else 0:=by cases l <;> rfl
theorem lexC_nil' (l:List Int):lexC [] l=if 0<l.length then -1 else 0:=by cases l <;> rfl
theorem lexC_drop:∀ {l m:List Int} {i:Nat},i≤l.length→i≤m.length→(∀ j,j<i→l.getD j 0=m.getD j 0)→lexC l m=lexC (l.drop i) (m.drop i)
 | l,m,0,_,_,_=>rfl
 | [],m,i+1,h,_,_=>by simp at h
 | a::l,[],i+1,_,h,_=>by simp at h
 | a::l,b::m,i+1,h1,h2,h3=>by
  have hab:a=b:=by simpa using h3 0 (by omega)
  subst hab
  have e:lexC (a::l) (a::m)=lexC l m:=by
   conv=>lhs;unfold lexC
   simp
  rw [e]
  exact lexC_drop (by simpa using h1) (by simpa using h2) fun j hj=>by simpa using h3 (j+1) (by omega)
theorem compareI_ok (h:Ints H v l) (g:Ints H u m) (hl:l.length≤1000000) (hm:m.length≤1000000) (k:K (.int .i64 (lexC l m)) H):AC Tryz.prog T0 126 [v,u] H K:=by
 apply F126.ac
 unfold F126.B15 F126.B14
 refine h.len ?_
 unfold F126.L4
 refine ⟨fun x0 x1 x9 x10 x11 G=>v=x0∧u=x1∧v=x9∧(l.length:Int)=x10∧H=G∧∃ i:Nat,x11=i∧i≤l.length∧i≤m.length∧∀ j,j<i→l.getD j 0=m.getD j 0,fun _ _ _ _ x11 _=>l.length-x11.toNat,⟨rfl,rfl,rfl,rfl,rfl,0,rfl,by omega,by omega,fun j hj=>by omega⟩,?_⟩
 rintro x0 x1 x9 x10 x11 G ⟨rfl,rfl,rfl,rfl,rfl,i,rfl,hi,him,hp⟩
 have hd:=lexC_drop hi him hp
 unfold F126.B13
 refine pif_cases (fun hb=>?_) fun hb=>?_
 ·have hlt:i<l.length:=by have:=of_decide_eq_true hb;omega
  unfold F126.B12
  refine h.rd (by omega) (by omega) ?_
  rw [Int.toNat_natCast]
  unfold F126.B11
  refine g.len (pif_cases (fun hc=>?_) fun hc=>?_)
  ·have hge:i=m.length:=by have:=of_decide_eq_true hc;omega
   unfold F126.B10
   rw [hd,hge,List.drop_length,lexC_nil,if_pos (by simp;omega)] at k
   exact k
  ·have hlm:i<m.length:=by have:=of_decide_eq_false hc;omega
   unfold F126.B9
   refine g.rd (by omega) (by omega) ?_
   rw [Int.toNat_natCast]
   unfold F126.B8
   refine cmpCompare_ok (asI_mk ?_)
   have e:lexC l m=if l.getD i 0<m.getD i 0 then -1 else if m.getD i 0<l.getD i 0 then 1 else lexC (l.drop (i+1)) (m.drop (i+1)):=by
    rw [hd,List.drop_eq_getElem_cons hlt,List.drop_eq_getElem_cons hlm,getD_of hlt,getD_of hlm]
    conv=>lhs;unfold lexC
   unfold F126.B7
   refine pif_cases (fun hq=>?_) fun hq=>?_
   ·unfold F126.B6
    have e2:cmpI (l.getD i 0) (m.getD i 0)=lexC l m:=by
     rw [e];unfold cmpI at hq ⊢
     by_cases h1:l.getD i 0<m.getD i 0
     ·rw [if_pos h1,if_pos h1]
     ·by_cases h2:m.getD i 0<l.getD i 0
      ·rw [if_neg h1,if_neg h1,if_pos h2,if_pos h2]
      ·rw [if_neg h1,if_neg h2] at hq
       simp at hq
    rw [e2];exact k
   ·unfold F126.B5
    rw [wrap_id (by omega) (by omega)]
    refine ⟨⟨rfl,rfl,rfl,rfl,rfl,i+1,by omega,by omega,by omega,fun j hj=>?_⟩,by simp;omega⟩
    by_cases ej:j=i
    ·subst ej
     unfold cmpI at hq
     by_cases h1:l.getD j 0<m.getD j 0
     ·rw [if_pos h1] at hq;simp at hq
     ·by_cases h2:m.getD j 0<l.getD j 0
      ·rw [if_neg h1,if_pos (by omega)] at hq;simp at hq
      ·omega
    ·exact hp j (by omega)
 ·have hge:i=l.length:=by have:=of_decide_eq_false hb;omega
  unfold F126.B3
  rw [hd,hge,List.drop_length,lexC_nil',List.length_drop] at k
  refine h.len (g.len (pif_cases (fun hc=>?_) fun hc=>?_))
  ·have:=of_decide_eq_true hc
   unfold F126.B2
   rw [if_pos (by omega)] at k;exact k
  ·have:=of_decide_eq_false hc
   unfold F126.B1
   rw [if_neg (by omega)] at k;exact k
theorem or2_ok {a b:Int} {w:Value} (h:Ints H w [a,b]) (k:K (.int .i64 (if a≠0 then a else b)) H):AC Tryz.prog T0 124 [w] H K:=by
 apply F124.ac
 unfold F124.B10 F124.B9 F124.B8
 refine h.len ?_
 unfold F124.L2
 refine ⟨fun x3 x6 x7 x8 G=>0=x3∧w=x6∧2=x7∧H=G∧(x8=0∨(x8=1∧a=0)∨(x8=2∧a=0∧b=0)),fun _ _ _ x8 _=>2-x8.toNat,⟨rfl,rfl,rfl,rfl,.inl rfl⟩,?_⟩
 rintro x3 x6 x7 x8 G ⟨rfl,rfl,rfl,rfl,hx⟩
 unfold F124.B7
 rcases hx with rfl|⟨rfl,rfl⟩|⟨rfl,rfl,rfl⟩
 ·refine pif_t rfl ?_
  unfold F124.B6
  refine h.rd (by decide) (by simp) ?_
  unfold F124.B5
  refine pif_cases (fun hb=>?_) fun hb=>?_
  ·unfold F124.B4
   have hb:a≠0:=by simpa using hb
   rw [if_pos hb] at k;exact k
  ·unfold F124.B3
   exact ⟨⟨rfl,rfl,rfl,rfl,.inr (.inl ⟨rfl,by simpa using hb⟩)⟩,by show 2-(IntKind.i64.wrap (0+1)).toNat<2-(0:Int).toNat;decide⟩
 ·refine pif_t rfl ?_
  unfold F124.B6
  refine h.rd (by decide) (by simp) ?_
  rw [if_neg (by simp)] at k
  unfold F124.B5
  refine pif_cases (fun hb=>?_) fun hb=>?_
  ·unfold F124.B4
   exact k
  ·unfold F124.B3
   exact ⟨⟨rfl,rfl,rfl,rfl,.inr (.inr ⟨rfl,rfl,by simpa using hb⟩)⟩,by show 2-(IntKind.i64.wrap (1+1)).toNat<2-(1:Int).toNat;decide⟩
 ·refine pif_f rfl ?_
  unfold F124.B1
  simpa using k
theorem bitsL_len (s:Nat):(bitsL s).length=popc s 64:=rfl
theorem compareSets_ok {x y:Nat} (hx:x<2^64) (hy:y<2^64) (k:∀ G,H.le G→K (.int .i64 (cS x y)) G):AC Tryz.prog T0 71 [.int .u64 (x:Nat),.int .u64 (y:Nat)] H K:=by
 have px:popc x 64≤64:=bitsTo_length _ _
 have py:popc y 64≤64:=bitsTo_length _ _
 apply F71.ac
 unfold F71.B2 F71.B1
 refine size_ok hx (asI_mk (size_ok hy (asI_mk (cmpCompare_ok (asI_mk (list_ok hx fun v1 G1 l1 f1=>list_ok hy fun v2 G2 l2 f2=>compareI_ok (f1.le l2).ints f2.ints (by rw [bitsL_len];omega) (by rw [bitsL_len];omega) (asI_mk (newK_f rfl fun G3 l3 n3 o3=>?_))))))))
 have hi:Ints G3 (.slice (some ⟨G2.length,0,none⟩) 2 (2+1)) [cmpI (popc x 64:Nat) (popc y 64:Nat),lexC (bitsL x) (bitsL y)]:=.inr ⟨⟨G2.length,0,none⟩,3,rfl,.inr ⟨rfl,fun i z hz=>by
  rw [cell_own o3]
  rcases i with _|_|i
  ·simp at hz;subst hz;rfl
  ·simp at hz;subst hz;rfl
  ·simp at hz⟩⟩
 refine or2_ok hi (asI_mk ?_)
 have e:(if cmpI (popc x 64:Nat) (popc y 64:Nat)≠0 then cmpI (popc x 64:Nat) (popc y 64:Nat) else lexC (bitsL x) (bitsL y))=cS x y:=by
  unfold cS cmpR cmpI
  rw [bitsL_len,bitsL_len]
  by_cases h1:popc x 64<popc y 64
  ·simp [h1]
  ·by_cases h2:popc y 64<popc x 64
   ·simp [h1,h2]
   ·simp [h1,h2]
 rw [e]
 exact k _ (AHeap.le_trans l1 (AHeap.le_trans l2 l3))
theorem cS_v (B:AHeap):CmpV B (.func (.func 71) ⟨[]⟩ ⟨[]⟩) cS (fun x=>x<2^64):=fun x y hx hy G hG K k=>
 callV_mk (compareSets_ok hx hy fun G' hG'=>k G' _ hG' Iff.rfl)
theorem cloneU_ok {m0:Nat} (h:Fresh m0 H v 55 1 (LU L)) (h0:0<L.length) (hl:L.length≤1048576) (k:∀ v' G,H.le G→Fresh H.length G v' 55 1 (LU L)→K v' G):AC Tryz.prog T0 67 [v] H K:=by
 apply F67.ac
 unfold F67.B4 F67.B3
 have hc:=fun G (hG:H.le G)=>fresh_cells (n:=L.length) (h.le hG) (by decide) (by simp)
 rcases h with ⟨h1,_⟩|⟨b,c,_,rfl,ho,hc'⟩
 ·have:=congrArg List.length h1;rw [List.length_map,List.length_nil] at this;omega
 ·show F67.B1 K _ H
  unfold F67.B1
  refine newK_f rfl fun G1 l1 n1 o1=>?_
  have s1:Sl H.length G1 (.slice (some ⟨H.length,0,none⟩) 0 (0+1)) 55 1 (LU []):=Fresh.sl (.inr ⟨_,0,Nat.le_refl _,rfl,o1,rfl⟩)
  refine s1.app E_set (by decide) l1.1 (hc G1 l1) (by simp;omega) (fun h=>by simp at h;rw [h] at h0;simp at h0) fun v' G2 k2 _ _ f2=>?_
  refine k v' G2 (k2.le l1 (Nat.le_refl _)) ?_
  simpa using f2
end Go.Proofs
namespace Go.Proofs
open Go.Abs

variable {H G B:AHeap} {v u f:Value} {l m:List Int} {es fs:List (Int × Int)} {K:Value→AHeap→Prop} {n:Int} {L A:List Nat}

noncomputable def acCode (n:Int) (es:List (Int × Int)):Int:=if IsG n es then (if n>12 then 3 else 0) else 1
theorem acCode_zero (h:acCode n es=0):IsG n es∧n≤12:=by
 unfold acCode at h
 split at h
 ·split at h
  ·omega
  ·rename_i h1 h2;exact ⟨h1,by omega⟩
 ·omega
theorem del_cl {x b:Nat} (hE:Edges H v es) (hg:IsG n es) (ho:Own H b 26 [.int .i64 n,v]) (hx:∀ j,x.testBit j=true→j<es.length) :
 Cl H (.func (.func 69) ⟨[]⟩ ⟨[.pointer (some ⟨b,0,none⟩)]⟩) (.int .u64 (x:Nat)) (!cycB n es (bitsL x)):=by
 intro G hG K k
 have h30:es.length≤30:=by have:=hg.ed.len;have:=hg.ed.hi;omega
 refine callV_mk ?_
 apply F69.ac
 unfold F69.B2 F69.B1
 have e:=setN_bits (m:=es.length) (by omega) hx
 have hi:=isCycle_ok (K:=fun v5 H6=>asB v5 fun v7=>K (.bool (!v7)) H6) (hE.le hG) hg (bits_isS (by omega) hx) fun G2 l2=>asB_mk (k G2 l2)
 rw [e] at hi
 exact asP_mk (ldI_own (ho.le hG) rfl (ld1_own (ho.le hG) rfl hi))
theorem xL_pos (os:List Nat):0<(xL os).length:=by
 unfold xL;rw [xL_length];simp;exact Nat.two_pow_pos _
theorem xL_short {os:List Nat} (h:os.length≤18):(xL os).length≤262144:=by
 unfold xL;rw [xL_length]
 have:2^os.length≤2^18:=Nat.pow_le_pow_right (by decide) h
 simp;omega
theorem implAll_ok (h:Edges H v es) (hl:es.length≤1048576)
 (k:∀ v' rows G,H.le G→(acCode n es=0→rows.Perm (cyRows n es)∧rows.Pairwise (LeC cmpR))→(acCode n es≠0→rows=[])→RowsF (fun b=>H.length≤b) G.length G v' rows→K (.tuple ⟨[v',.int .i64 (acCode n es)]⟩) G) :
 AC Tryz.prog T0 17 [.agg ⟨[.int .i64 n,v]⟩] H K:=by
 apply F17.ac
 unfold F17.B21
 refine newK_f (all_iv (edges_one' h)) fun H1 l1 n1 o1=>?_
 unfold F17.B20
 refine ldI_own o1 rfl (ld1_own o1 rfl (graphCode_ok (h.le l1) hl fun H2 l2=>asI_mk ?_))
 have l02:=AHeap.le_trans l1 l2
 have o2:=o1.le l2
 unfold F17.B19
 by_cases hg:IsG n es
 rotate_left
 ·have hc:acCode n es=1:=by unfold acCode;rw [if_neg hg]
  rw [if_neg hg]
  refine pif_t rfl ?_
  unfold F17.B18
  rw [hc] at k
  exact k _ [] H2 l02 (fun h=>by cases h) (fun _=>rfl) .nil
 rw [if_pos hg]
 refine pif_f rfl ?_
 unfold F17.B17
 refine ldI_own o2 rfl (pif_cases (fun hb=>?_) fun hb=>?_)
 ·have hc:acCode n es=3:=by unfold acCode;rw [if_pos hg,if_pos (of_decide_eq_true hb)]
  unfold F17.B16
  rw [hc] at k
  exact k _ [] H2 l02 (fun h=>by cases h) (fun _=>rfl) .nil
 have hn12:n≤12:=by have:=of_decide_eq_false hb;omega
 have hc:acCode n es=0:=by unfold acCode;rw [if_pos hg,if_neg (by omega)]
 rw [hc] at k
 have h18:es.length≤18:=by have:=hg.ed.len;omega
 have hE2:=h.le l02
 unfold F17.B15
 refine newK_f rfl fun H3 l3 n3 o3=>?_
 unfold F17.B14
 have o23:=o2.le l3
 refine ldI_own o23 rfl (ld1_own o23 rfl (basis_ok (hE2.le l3) hg fun w os t H4 l4 fw ht hB ho64=>?_))
 have hol:=hB.len
 refine fw.sl.len (by decide) (n:=os.length) (by simp) ?_
 have hbw:∀ b,bk w=some b→H3.length≤b:=fun b hb=>(fw.bk_lt hb).1
 unfold F17.L4
 refine ⟨fun x1 x5 x20 x21 x22 G=>H.length=x1∧w=x20∧(os.length:Int)=x21∧H2.le G∧Fresh 0 G w 55 1 (LU os)∧(∀ b,bk w=some b→bk x5≠some b)∧∃ i:Nat,x22=i∧i≤os.length∧Fresh H2.length G x5 55 1 (LU (xL (os.take i))),fun _ _ _ _ x22 _=>os.length-x22.toNat,
  ⟨rfl,rfl,rfl,AHeap.le_trans l3 l4,fw.less (Nat.zero_le _),fun b hb hb'=>?_,0,rfl,by omega,.inr ⟨_,1,Nat.le_refl _,rfl,o3.le l4,rfl⟩⟩,?_⟩
 ·have h1:=hbw b hb
  have h2:=o3.lt
  have h3:H2.length=b:=Option.some.inj hb'
  omega
 rintro x1 x5 x20 x21 x22 G ⟨rfl,rfl,rfl,lG,fG,hsep,i,rfl,hi,hA⟩
 unfold F17.B13
 refine pif_cases (fun hb=>?_) fun hb=>?_
 ·have hlt:i<os.length:=by have:=of_decide_eq_true hb;omega
  have hxl:(xL (os.take i)).length≤262144:=xL_short (by rw [List.length_take];omega)
  have hxp:=xL_pos (os.take i)
  have hx64:∀ s∈xL (os.take i),s<2^64:=xL_lt fun o ho=>ho64 o (List.mem_of_mem_take ho)
  unfold F17.B12
  refine Sl_rdI fG.sl (by omega) (by simp;omega) (by rw [Int.toNat_natCast];exact LU_get hlt) ?_
  have ho:=ho64 (os.getD i 0) (by rw [getD_of hlt];exact List.getElem_mem _)
  unfold F17.B11
  refine cloneU_ok hA hxp (by omega) fun c G1 g1 fc=>fc.sl.len (by decide) (n:=(xL (os.take i)).length) (by simp) ?_
  unfold F17.L6
  refine ⟨fun x1 x5 x7 x20 x21 x22 x27 x28 x29 G=>H.length=x1∧((os.getD i 0:Nat):Int)=x7∧w=x20∧(os.length:Int)=x21∧(i:Int)=x22∧c=x27∧((xL (os.take i)).length:Int)=x28∧H2.le G∧Fresh 0 G w 55 1 (LU os)∧(∀ b,bk w=some b→bk x5≠some b)∧Fresh 0 G c 55 1 (LU (xL (os.take i)))∧(∀ b,bk c=some b→bk x5≠some b)∧∃ j:Nat,x29=j∧j≤(xL (os.take i)).length∧Fresh H2.length G x5 55 1 (LU (xL (os.take i)++((xL (os.take i)).take j).map (· ^^^ os.getD i 0))),
   fun _ _ _ _ _ _ _ _ x29 _=>(xL (os.take i)).length-x29.toNat,⟨rfl,rfl,rfl,rfl,rfl,rfl,rfl,AHeap.le_trans lG g1,fG.le g1,hsep,fc.less (Nat.zero_le _),fun b hb hb'=>?_,0,rfl,by omega,by simpa using hA.le g1⟩,?_⟩
  ·have h1:=(fc.bk_lt hb).1
   have h2:=(hA.bk_lt hb').2
   omega
  clear hA fG lG hsep fc g1
  rintro x1 x5 x7 x20 x21 x22 x27 x28 x29 G ⟨rfl,rfl,rfl,rfl,rfl,rfl,rfl,lG,fG,hsep,fc,hsc,j,rfl,hj,hA⟩
  unfold F17.B10
  refine pif_cases (fun hb=>?_) fun hb=>?_
  ·have hjl:j<(xL (os.take i)).length:=by have:=of_decide_eq_true hb;omega
   unfold F17.B9
   refine Sl_rdI fc.sl (by omega) (by simp;omega) (by rw [Int.toNat_natCast];exact LU_get hjl) ?_
   have hs:=hx64 ((xL (os.take i)).getD j 0) (by rw [getD_of hjl];exact List.getElem_mem _)
   unfold F17.B8
   rw [bits_xor hs ho]
   refine hA.sl.pushN E_set (by decide) lG.1 (n:=1) (ys:=[.int .u64 (((xL (os.take i)).getD j 0 ^^^ os.getD i 0:Nat):Int)]) rfl rfl (by simp;omega) (by simp) fun v' G6 k6 ot nb f6=>?_
   unfold F17.B7
   rw [wrap_id (by omega) (by omega)]
   refine ⟨⟨rfl,rfl,rfl,rfl,rfl,rfl,rfl,k6.le lG (Nat.le_refl _),fresh_oth fG fun b o hb ho=>ot b o (fun h=>hsep b hb h) ho,fun b hb hb'=>by have:=(fG.bk_lt hb).2;have:=nb b hb';omega,fresh_oth fc fun b o hb ho=>ot b o (fun h=>hsc b hb h) ho,fun b hb hb'=>by have:=(fc.bk_lt hb).2;have:=nb b hb';omega,j+1,by omega,by omega,?_⟩,by simp;omega⟩
   rw [List.take_succ_eq_append_getElem hjl,List.map_append,← getD_of (d:=0) hjl,← List.append_assoc]
   simpa using f6
  ·have hje:j=(xL (os.take i)).length:=by have:=of_decide_eq_false hb;omega
   subst hje
   unfold F17.B5
   rw [wrap_id (by omega) (by omega)]
   refine ⟨⟨rfl,rfl,rfl,lG,fG,hsep,i+1,by omega,by omega,?_⟩,by simp;omega⟩
   rw [List.take_succ_eq_append_getElem hlt,xL_snoc,← getD_of (d:=0) hlt]
   simpa using hA
 ·have hie:i=os.length:=by have:=of_decide_eq_false hb;omega
  subst hie
  rw [List.take_length] at hA
  have hxl:(xL os).length≤262144:=xL_short (by omega)
  have hxp:=xL_pos os
  have hmem:=(xL_all hg.endsIn ht hB).2
  obtain ⟨b,c,hb,rfl,ho,hcl⟩:∃ b c,H2.length≤b∧x5=.slice (some ⟨b,0,none⟩) c (c+1)∧Own G b 55 (LU (xL os))∧(LU (xL os)).length=c*1:=by
   rcases hA with ⟨h1,_⟩|h
   ·have:=congrArg List.length h1;rw [List.length_map,List.length_nil] at this;omega
   ·exact h
  have hcx:c=(xL os).length:=by simpa using hcl.symm
  subst hcx
  unfold F17.B3
  refine deleteU_ok (B:=H2) (p:=fun s=>!cycB n es (bitsL s)) lG hb ho (by omega) (fun s hs=>del_cl hE2 hg o2 ((hmem s).1 hs).1) fun G1 R k1 o1'=>?_
  have hfl:(xL os).filter (fun x=>!(!cycB n es (bitsL x)))=(xL os).filter fun s=>cycB n es (bitsL s):=by simp
  rw [hfl] at o1' ⊢
  obtain ⟨L,hL⟩:∃ L,L=(xL os).filter fun s=>cycB n es (bitsL s):=⟨_,rfl⟩
  have hLl:L.length≤262144:=by rw [hL];exact Nat.le_trans (List.length_filter_le _ _) hxl
  have hL64:∀ x∈L,x<2^64:=fun x hx=>by
   rw [hL] at hx;exact xL_lt ho64 x (List.mem_filter.1 hx).1
  rw [← hL] at o1' ⊢
  have lG1:=k1.le lG hb
  unfold F17.B2
  refine sortFuncC_ok (B:=H2) (b:=b) (N:=L.length) (R:=R) (c:=cS) (dom:=fun x=>x<2^64) ⟨cS_v H2,cS_ord,hb,by omega⟩ (L:=L) ⟨lG1,o1',hL64,rfl⟩ fun G3 S k3 s3 hperm hsort=>asTup_k ?_
  unfold F17.B1
  have hSl:S.length=L.length:=s3.len
  have lG3:=s3.base
  refine lists_ok (Z:=S) (m0:=0) (.inr ⟨b,L.length,[],R,Nat.zero_le _,rfl,by simpa using s3.own,by simp [hSl]⟩) (by omega) (fun z hz=>s3.dm z hz) fun v' G4 l4 hR=>?_
  have lG4:=AHeap.le_trans l02 (AHeap.le_trans lG3 l4)
  refine k v' (S.map bitsL) G4 lG4 (fun _=>⟨cyc_perm hg (by omega) ht hB (by rw [← hL];exact hperm),?_⟩) (fun h=>absurd rfl h) (hR.mono (fun b hb=>Nat.le_trans (AHeap.le_trans l02 lG3).1 hb) (Nat.le_refl _))
  rw [← hSl] at hsort
  exact List.pairwise_map.2 (hsort.pairs.imp fun h=>h)
end Go.Proofs
namespace Go.Proofs
open Go.Abs

variable {H G:AHeap} {v u f w:Value} {l m:List Int} {es fs:List (Int × Int)} {K:Value→AHeap→Prop} {n:Int} {A:Nat→Prop} {B:Nat} {ls R:List (List Int)}

def RowsS (H:AHeap) (v:Value) (ls:List (List Int)):Prop:=∃ vs:List Value,Sl 0 H v 27 1 vs∧vs.length=ls.length∧∀ i,i<ls.length→∃ w,vs[i]?=some w∧Ints H w (ls.getD i [])
theorem RowsS.le (h:RowsS H v ls) (hl:H.le G):RowsS G v ls:=by
 obtain ⟨vs,h1,h2,h3⟩:=h
 exact ⟨vs,h1.le hl,h2,fun i hi=>by obtain ⟨w,g1,g2⟩:=h3 i hi;exact ⟨w,g1,g2.le hl⟩⟩
theorem RowsS.len (h:RowsS H v ls) {K:Nat→Prop} (k:K ls.length):lenK v K:=by
 obtain ⟨vs,h1,h2,_⟩:=h
 exact h1.len (by decide) (n:=ls.length) (by omega) k
theorem RowsS.row (h:RowsS H v ls) {G:AHeap} (hl:H.le G) {x:Int} {i:Nat} (hx:x=i) (hi:i<ls.length) {K:Value→Prop} (k:∀ w,Ints H w (ls.getD i [])→K w):idxK v x 1 (fun b o=>ld1 G b o K):=by
 obtain ⟨vs,h1,h2,h3⟩:=h
 obtain ⟨w,g1,g2⟩:=h3 i hi
 subst hx
 exact Sl_rd (h1.le hl) (by omega) (by omega) (by rw [Int.toNat_natCast];exact g1) (k w g2)
theorem RowsF.toS (h:RowsF A B H v ls):RowsS H v ls:=by
 obtain ⟨vs,h1,h2,_,h4⟩:=h
 refine ⟨vs,h1.sl,h2,fun i hi=>?_⟩
 obtain ⟨w,g1,g2,_⟩:=h4 i hi
 exact ⟨w,g1,g2.ints⟩
theorem RowsS.cutHi (h:RowsS H v ls) {x:Int} {i:Nat} (hx:x=i) (h0:0<ls.length) (hi:i≤ls.length) {K:Value→Prop} (k:∀ v',RowsS H v' (ls.take i)→K v'):sliceK H 27 v none (some (.int .i64 x)) 1 K:=by
 subst hx
 obtain ⟨vs,h1,h2,h3⟩:=h
 rcases h1 with ⟨rfl,_⟩|⟨b,c,pre,post,hb,rfl,ho,hc⟩
 ·simp at h2;omega
 ·refine ⟨⟨_,_,ho,by simp;omega⟩,by simp,by simp,by simp;omega,?_⟩
  refine k _ ⟨vs.take i,?_,by simp [h2],fun j hj=>?_⟩
  ·refine .inr ⟨b,i,pre,vs.drop i++post,Nat.zero_le _,by simp,?_,by simp;omega⟩
   rw [← List.append_assoc,List.append_assoc pre,List.take_append_drop];exact ho
  ·rw [List.length_take] at hj
   obtain ⟨w,g1,g2⟩:=h3 j (by omega)
   refine ⟨w,by rw [List.getElem?_take_of_lt (by omega)];exact g1,?_⟩
   rwa [show (ls.take i).getD j []=ls.getD j [] by simp [List.getD,List.getElem?_take_of_lt (show j<i by omega)]]
theorem RowsS.cutLo (h:RowsS H v ls) {x:Int} {i:Nat} (hx:x=i) (h0:0<ls.length) (hi:i≤ls.length) {K:Value→Prop} (k:∀ v',RowsS H v' (ls.drop i)→K v'):sliceK H 27 v (some (.int .i64 x)) none 1 K:=by
 subst hx
 obtain ⟨vs,h1,h2,h3⟩:=h
 refine h1.drop (i:=i) (n:=ls.length) (by omega) (by decide) h0 hi fun v' hv'=>k v' ⟨vs.drop i,by simpa using hv',by simp [h2],fun j hj=>?_⟩
 rw [List.length_drop] at hj
 obtain ⟨w,g1,g2⟩:=h3 (i+j) (by omega)
 refine ⟨w,by rw [List.getElem?_drop];exact g1,?_⟩
 rwa [show (ls.drop i).getD j []=ls.getD (i+j) [] by simp [List.getD,List.getElem?_drop]]
theorem l07Before_ok (h:Ints H v l) (g:Ints H u m) (hl:l.length≤1000000) (hm:m.length≤1000000) (k:K (.bool (decide (cmpR l m<0))) H):AC Tryz.prog T0 130 [v,u] H K:=by
 apply F130.ac
 unfold F130.B10 F130.B9
 refine h.len (g.len (pif_cases (fun hb=>?_) fun hb=>?_))
 ·have hne:l.length≠m.length:=by intro e;rw [e] at hb;simp at hb
  unfold F130.B8
  refine h.len (g.len ?_)
  have e:decide (((l.length:Nat):Int)<((m.length:Nat):Int))=decide (cmpR l m<0):=by
   unfold cmpR
   by_cases h1:l.length<m.length
   ·rw [if_pos h1];simp [h1]
   ·rw [if_neg h1,if_pos (by omega)];simp;omega
  rw [e];exact k
 ·have heq:l.length=m.length:=by have:=bne_eq_false_iff_eq.1 hb;omega
  have hc:cmpR l m=lexC l m:=by unfold cmpR;rw [if_neg (by omega),if_neg (by omega)]
  rw [hc] at k
  unfold F130.B7 F130.L2
  refine ⟨fun x0 x1 x5 G=>v=x0∧u=x1∧H=G∧∃ i:Nat,x5=i∧i≤l.length∧∀ j,j<i→l.getD j 0=m.getD j 0,fun _ _ x5 _=>l.length-x5.toNat,⟨rfl,rfl,rfl,0,rfl,by omega,fun j hj=>by omega⟩,?_⟩
  rintro x0 x1 x5 G ⟨rfl,rfl,rfl,i,rfl,hi,hp⟩
  have hd:=lexC_drop hi (by omega) hp
  unfold F130.B6
  refine h.len (pif_cases (fun hb=>?_) fun hb=>?_)
  ·have hlt:i<l.length:=by have:=of_decide_eq_true hb;omega
   unfold F130.B5
   refine h.rd (by omega) (by omega) (g.rd (by omega) (by omega) ?_)
   rw [Int.toNat_natCast]
   have e:lexC l m=if l.getD i 0<m.getD i 0 then -1 else if m.getD i 0<l.getD i 0 then 1 else lexC (l.drop (i+1)) (m.drop (i+1)):=by
    rw [hd,List.drop_eq_getElem_cons hlt,List.drop_eq_getElem_cons (show i<m.length by omega),getD_of hlt,getD_of (show i<m.length by omega)]
    conv=>lhs;unfold lexC
   refine pif_cases (fun hq=>?_) fun hq=>?_
   ·have hne:l.getD i 0≠m.getD i 0:=by simpa using hq
    unfold F130.B4
    refine h.rd (by omega) (by omega) (g.rd (by omega) (by omega) ?_)
    rw [Int.toNat_natCast]
    rw [e] at k
    by_cases h1:l.getD i 0<m.getD i 0
    ·rw [if_pos h1] at k;rw [decide_eq_true h1];exact k
    ·rw [if_neg h1,if_pos (by omega)] at k;rw [decide_eq_false h1];exact k
   ·have heq':l.getD i 0=m.getD i 0:=bne_eq_false_iff_eq.1 hq
    unfold F130.B3
    rw [wrap_id (by omega) (by omega)]
    refine ⟨⟨rfl,rfl,rfl,i+1,by omega,by omega,fun j hj=>?_⟩,by simp;omega⟩
    by_cases ej:j=i
    ·subst ej;exact heq'
    ·exact hp j (by omega)
  ·have hge:i=l.length:=by have:=of_decide_eq_false hb;omega
   unfold F130.B1
   rw [hd,hge,List.drop_length,show m.drop l.length=[] by rw [heq,List.drop_length]] at k
   exact k
structure Mrg (one two:List (List Int)) (i k:Nat) (R:List (List Int)):Prop where
 perm:R.Perm (one.take i++two.take k)
 srt:R.Pairwise (LeC cmpR)
 le1:∀ r∈R,∀ j,i≤j→j<one.length→LeC cmpR r (one.getD j [])
 le2:∀ r∈R,∀ j,k≤j→j<two.length→LeC cmpR r (two.getD j [])
theorem pair_get {L:List (List Int)} (h:L.Pairwise (LeC cmpR)) {i j:Nat} (hij:i≤j) (hj:j<L.length):LeC cmpR (L.getD i []) (L.getD j []):=by
 by_cases e:i=j
 ·subst e;exact cmpR_ord.rfl _
 ·rw [getD_of (show i<L.length by omega),getD_of hj]
  exact (List.pairwise_iff_getElem.1 h) i j (by omega) hj (by omega)
theorem Mrg.left {one two:List (List Int)} {i k:Nat} (h:Mrg one two i k R) (h1:one.Pairwise (LeC cmpR)) (h2:two.Pairwise (LeC cmpR)) (hi:i<one.length) (hk:k<two.length→LeC cmpR (one.getD i []) (two.getD k [])):Mrg one two (i+1) k (R++[one.getD i []]):=by
 refine ⟨?_,?_,fun r hr j hj1 hj2=>?_,fun r hr j hj1 hj2=>?_⟩
 ·rw [List.take_succ_eq_append_getElem hi,← getD_of (d:=[]) hi]
  have e1:(one.take i++[one.getD i []]++two.take k).Perm (one.take i++two.take k++[one.getD i []]):=by
   rw [List.append_assoc,List.append_assoc]
   exact List.Perm.append_left _ List.perm_append_comm
  exact (h.perm.append_right _).trans e1.symm
 ·rw [List.pairwise_append]
  exact ⟨h.srt,by simp,fun a ha b hb=>by rw [List.mem_singleton.1 hb];exact h.le1 a ha i (Nat.le_refl _) hi⟩
 ·rcases List.mem_append.1 hr with hr|hr
  ·exact h.le1 r hr j (by omega) hj2
  ·rw [List.mem_singleton.1 hr];exact pair_get h1 (by omega) hj2
 ·rcases List.mem_append.1 hr with hr|hr
  ·exact h.le2 r hr j hj1 hj2
  ·rw [List.mem_singleton.1 hr];exact cmpR_ord.tr _ _ _ (hk (by omega)) (pair_get h2 hj1 hj2)
theorem Mrg.right {one two:List (List Int)} {i k:Nat} (h:Mrg one two i k R) (h1:one.Pairwise (LeC cmpR)) (h2:two.Pairwise (LeC cmpR)) (hk:k<two.length) (hi:i<one.length→LeC cmpR (two.getD k []) (one.getD i [])):Mrg one two i (k+1) (R++[two.getD k []]):=by
 refine ⟨?_,?_,fun r hr j hj1 hj2=>?_,fun r hr j hj1 hj2=>?_⟩
 ·rw [List.take_succ_eq_append_getElem hk,← getD_of (d:=[]) hk,← List.append_assoc]
  exact h.perm.append_right _
 ·rw [List.pairwise_append]
  exact ⟨h.srt,by simp,fun a ha b hb=>by rw [List.mem_singleton.1 hb];exact h.le2 a ha k (Nat.le_refl _) hk⟩
 ·rcases List.mem_append.1 hr with hr|hr
  ·exact h.le1 r hr j hj1 hj2
  ·rw [List.mem_singleton.1 hr];exact cmpR_ord.tr _ _ _ (hi (by omega)) (pair_get h1 hj1 hj2)
 ·rcases List.mem_append.1 hr with hr|hr
  ·exact h.le2 r hr j (by omega) hj2
  ·rw [List.mem_singleton.1 hr];exact pair_get h2 (by omega) hj2
def Grow (Hm G:AHeap) (v:Value) (R:List (List Int)):Prop:=∃ vs:List Value,Fresh Hm.length G v 27 1 vs∧vs.length=R.length∧∀ i,i<R.length→∃ w,vs[i]?=some w∧Ints Hm w (R.getD i [])
theorem Grow.push {Hm:AHeap} {r:List Int} (h:Grow Hm G v R) (hl:Hm.le G) (hw:Ints Hm w r) (hs:R.length<1000000000) (k:∀ v' G',Hm.le G'→Grow Hm G' v' (R++[r])→K v' G') :
 pif w.oneCell' (newK G [w] 27 (fun b1 H2=>apK T0 27 H2 v (.slice (some ⟨b1,0,none⟩) 1 (1+1)) K)) False:=by
 have hw1:w.oneCell'=true:=ints_one hw
 refine pif_t hw1 ?_
 obtain ⟨vs,h1,h2,h3⟩:=h
 refine h1.sl.pushN E_row (by decide) hl.1 (n:=1) (ys:=[w]) rfl (by simpa using hw1) (by simp;omega) (by simp) fun v' G' k1 _ _ f'=>k v' G' (k1.le hl (Nat.le_refl _)) ⟨vs++[w],f',by simp [h2],fun i hi=>?_⟩
 rw [List.length_append,List.length_singleton] at hi
 by_cases e:i<R.length
 ·obtain ⟨w',q1,q2⟩:=h3 i e
  exact ⟨w',by rw [List.getElem?_append_left (by omega)];exact q1,by rw [show (R++[r]).getD i []=R.getD i [] by simp [List.getD,List.getElem?_append_left e]];exact q2⟩
 ·obtain rfl:i=R.length:=by omega
  refine ⟨w,by rw [List.getElem?_append_right (by omega)];simp [h2],?_⟩
  rwa [show (R++[r]).getD R.length []=r by simp [List.getD]]
theorem Grow.toS {Hm:AHeap} (h:Grow Hm G v R) (hl:Hm.le G):RowsS G v R:=by
 obtain ⟨vs,h1,h2,h3⟩:=h
 exact ⟨vs,h1.less (Nat.zero_le _) |>.sl,h2,fun i hi=>by obtain ⟨w,g1,g2⟩:=h3 i hi;exact ⟨w,g1,g2.le hl⟩⟩
theorem l07Merge_ok:∀ (N:Nat) {H:AHeap} {v:Value} {ls:List (List Int)} {K:Value→AHeap→Prop},ls.length≤N→ls.length≤100000000→(∀ r∈ls,r.length≤1000000)→RowsS H v ls→
 (∀ v' R G,H.le G→RowsS G v' R→R.Perm ls→R.Pairwise (LeC cmpR)→K v' G)→AC Tryz.prog T0 73 [v] H K:=by
 intro N
 induction N with
 | zero=>
  intro H v ls K hN hl hr h k
  have h0:ls=[]:=List.length_eq_zero_iff.1 (by omega)
  subst h0
  apply F73.ac
  unfold F73.B14 F73.B13
  refine h.len (pif_t (by decide) ?_)
  unfold F73.B12
  exact k v [] H (AHeap.le_refl _) h (List.Perm.refl _) List.Pairwise.nil
 | succ N ih=>
  intro H v ls K hN hl hr h k
  apply F73.ac
  unfold F73.B14 F73.B13
  refine h.len (pif_cases (fun hb=>?_) fun hb=>?_)
  ·have h2:ls.length<2:=by have:=of_decide_eq_true hb;omega
   unfold F73.B12
   refine k v ls H (AHeap.le_refl _) h (List.Perm.refl _) ?_
   match ls,h2 with
   | [],_=>exact List.Pairwise.nil
   | [a],_=>simp
  ·have h2:2≤ls.length:=by have:=of_decide_eq_false hb;omega
   have hd:IntKind.i64.wrap (Int.tdiv (ls.length:Int) 2)=((ls.length/2:Nat):Int):=by
    rw [Int.tdiv_eq_ediv_of_nonneg (by omega),wrap_id (by omega) (by omega)];omega
   unfold F73.B11
   refine h.len (h.cutHi hd (by omega) (by omega) fun v2 r2=>h.len (h.cutLo hd (by omega) (by omega) fun v4 r4=>?_))
   refine ih (ls:=ls.take (ls.length/2)) (by rw [List.length_take];omega) (by rw [List.length_take];omega) (fun r hr'=>hr r (List.mem_of_mem_take hr')) r2 fun x3 one H6 l6 s3 p3 q3=>⟨l6,?_⟩
   refine ih (ls:=ls.drop (ls.length/2)) (by rw [List.length_drop];omega) (by rw [List.length_drop];omega) (fun r hr'=>hr r (List.mem_of_mem_drop hr')) (r4.le l6) fun x4 two H9 l9 s4 p4 q4=>?_
   have s3:=s3.le l9
   have l09:=AHeap.le_trans l6 l9
   have hpl:=p3.length_eq
   have hpl4:=p4.length_eq
   rw [List.length_take] at hpl
   rw [List.length_drop] at hpl4
   have hro:∀ r∈one,r.length≤1000000:=fun r hr'=>hr r (List.mem_of_mem_take (p3.mem_iff.1 hr'))
   have hrt:∀ r∈two,r.length≤1000000:=fun r hr'=>hr r (List.mem_of_mem_drop (p4.mem_iff.1 hr'))
   unfold F73.B10
   refine newK_f rfl fun H10 l10 n10 o10=>?_
   unfold F73.B9 F73.L2
   refine ⟨fun y3 y4 x5 x6 x7 G=>x3=y3∧x4=y4∧H9.le G∧∃ (i k:Nat) (R:List (List Int)),x6=i∧x7=k∧i≤one.length∧k≤two.length∧Mrg one two i k R∧Grow H9 G x5 R,fun _ _ _ x6 x7 _=>(one.length-x6.toNat)+(two.length-x7.toNat),
    ⟨rfl,rfl,l10,0,0,[],rfl,rfl,by omega,by omega,⟨by simp,List.Pairwise.nil,fun r hr=>absurd hr (by simp),fun r hr=>absurd hr (by simp)⟩,[],.inr ⟨_,0,Nat.le_refl _,rfl,o10,rfl⟩,rfl,fun i hi=>absurd hi (by simp)⟩,?_⟩
   rintro y3 y4 x5 x6 x7 G ⟨rfl,rfl,lG,i,kk,R,rfl,rfl,hi,hk,hM,hG⟩
   have hRl:R.length=i+kk:=by
    have:=hM.perm.length_eq
    rw [List.length_append,List.length_take,List.length_take] at this;omega
   have left:∀ G',H9.le G'→Grow H9 G' x5 R→i<one.length→(kk<two.length→LeC cmpR (one.getD i []) (two.getD kk []))→F73.B4 K (fun z3 z4 z5 z6 z7 G'=>(x3=z3∧x4=z4∧H9.le G'∧∃ (i k:Nat) (R:List (List Int)),z6=i∧z7=k∧i≤one.length∧k≤two.length∧Mrg one two i k R∧Grow H9 G' z5 R)∧(one.length-z6.toNat)+(two.length-z7.toNat)<(one.length-(i:Int).toNat)+(two.length-(kk:Int).toNat)) x3 x4 x5 i kk G':=by
    intro G' lG' hG hlt hle
    unfold F73.B4
    refine s3.row lG' rfl hlt fun w hw=>hG.push lG' hw (by omega) fun v' G2 l2 g2=>?_
    unfold F73.B3
    rw [wrap_id (by omega) (by omega)]
    exact ⟨⟨rfl,rfl,l2,i+1,kk,_,by omega,rfl,by omega,by omega,hM.left q3 q4 hlt hle,g2⟩,by simp;omega⟩
   have right:∀ G',H9.le G'→Grow H9 G' x5 R→kk<two.length→(i<one.length→LeC cmpR (two.getD kk []) (one.getD i []))→F73.B6 K (fun z3 z4 z5 z6 z7 G'=>(x3=z3∧x4=z4∧H9.le G'∧∃ (i k:Nat) (R:List (List Int)),z6=i∧z7=k∧i≤one.length∧k≤two.length∧Mrg one two i k R∧Grow H9 G' z5 R)∧(one.length-z6.toNat)+(two.length-z7.toNat)<(one.length-(i:Int).toNat)+(two.length-(kk:Int).toNat)) x3 x4 x5 i kk G':=by
    intro G' lG' hG hlt hle
    unfold F73.B6
    refine s4.row lG' rfl hlt fun w hw=>hG.push lG' hw (by omega) fun v' G2 l2 g2=>?_
    unfold F73.B5
    rw [wrap_id (by omega) (by omega)]
    exact ⟨⟨rfl,rfl,l2,i,kk+1,_,rfl,by omega,by omega,by omega,hM.right q3 q4 hlt hle,g2⟩,by simp;omega⟩
   have grow:∀ G',G.le G'→Grow H9 G' x5 R:=fun G' l'=>by
    obtain ⟨vs,g1,g2,g3⟩:=hG
    exact ⟨vs,g1.le l',g2,g3⟩
   have mid:(i<one.length∨kk<two.length)→F73.B7 K (fun z3 z4 z5 z6 z7 G'=>(x3=z3∧x4=z4∧H9.le G'∧∃ (i k:Nat) (R:List (List Int)),z6=i∧z7=k∧i≤one.length∧k≤two.length∧Mrg one two i k R∧Grow H9 G' z5 R)∧(one.length-z6.toNat)+(two.length-z7.toNat)<(one.length-(i:Int).toNat)+(two.length-(kk:Int).toNat)) x3 x4 x5 i kk G:=by
    intro hor
    unfold F73.B7
    refine s4.len (pif_cases (fun hb=>?_) fun hb=>s3.len (pif_cases (fun hc=>?_) fun hc=>?_))
    ·have hke:kk=two.length:=by have:=beq_iff_eq.1 hb;omega
     exact left G lG hG (by omega) fun h=>by omega
    ·have hkl:kk<two.length:=by
      have:kk≠two.length:=by intro e;rw [e] at hb;simp at hb
      omega
     have hil:i<one.length:=by have:=of_decide_eq_true hc;omega
     refine s4.row lG rfl hkl fun w hw=>s3.row lG rfl hil fun w' hw'=>l07Before_ok (hw.le lG) (hw'.le lG) (hrt _ (by rw [getD_of hkl];exact List.getElem_mem _)) (hro _ (by rw [getD_of hil];exact List.getElem_mem _)) (asB_mk (pif_cases (fun hq=>?_) fun hq=>?_))
     ·have:¬ cmpR (two.getD kk []) (one.getD i [])<0:=by simpa using hq
      exact left G lG hG hil fun _=>this
     ·have:cmpR (two.getD kk []) (one.getD i [])<0:=by simpa using hq
      exact right G lG hG hkl fun _=>cmpR_ord.lt this
    ·have hie:i=one.length:=by have:=of_decide_eq_false hc;omega
     exact right G lG hG (by omega) fun h=>by omega
   unfold F73.B8
   refine s3.len (pif_cases (fun hb=>mid (.inl (by have:=of_decide_eq_true hb;omega))) fun hb=>s4.len (pif_cases (fun hc=>mid (.inr (by have:=of_decide_eq_true hc;omega))) fun hc=>?_))
   have hie:i=one.length:=by have:=of_decide_eq_false hb;omega
   have hke:kk=two.length:=by have:=of_decide_eq_false hc;omega
   subst hie hke
   unfold F73.B1
   have hp:=hM.perm
   rw [List.take_length,List.take_length] at hp
   refine k x5 R G (AHeap.le_trans l09 lG) (hG.toS lG) ?_ hM.srt
   have:=hp.trans (p3.append p4)
   rwa [List.take_append_drop] at this
end Go.Proofs
namespace Go.Proofs
open Go.Abs

variable {H G:AHeap} {v u f w:Value} {l m:List Int} {es fs:List (Int × Int)} {K:Value→AHeap→Prop} {n:Int} {A:Nat→Prop} {B:Nat} {ls ms R:List (List Int)}

noncomputable def srtR (l:List (List Int)):List (List Int):=l.mergeSort fun a b=>decide (LeC cmpR a b)
theorem srtR_eq {S:List (List Int)} (h1:S.Pairwise (LeC cmpR)) (h2:S.Perm ls):S=srtR ls:=by
 refine sorted_same (le:=LeC cmpR) (fun a b h1 h2=>?_) h1 ?_ (h2.trans (List.mergeSort_perm ls _).symm)
 ·have e1:=cmpR_le.1 h1
  have e2:=cmpR_le.1 h2
  have e3:=cmpR_neg a b
  exact cmpR_zero (by omega)
 ·have:=List.pairwise_mergeSort (le:=fun a b=>decide (LeC cmpR a b)) (fun a b c h1 h2=>by
   rw [decide_eq_true_iff] at *;exact cmpR_ord.tr _ _ _ h1 h2) (fun a b=>by
   by_cases h:cmpR a b<0
   ·rw [Bool.or_eq_true];left;exact decide_eq_true (cmpR_ord.lt h)
   ·rw [Bool.or_eq_true];right;exact decide_eq_true h) ls
  exact this.imp fun h=>of_decide_eq_true h
noncomputable def acL (n:Int) (es:List (Int × Int)):List (List Int):=if acCode n es=0 then srtR (cyRows n es) else []
theorem acL_eq (hc:acCode n es=0) (h1:R.Pairwise (LeC cmpR)) (h2:R.Perm (cyRows n es)):R=acL n es:=by
 unfold acL;rw [if_pos hc];exact srtR_eq h1 h2
theorem cyRows_row (hg:IsG n es) {r:List Int} (h:r∈cyRows n es):r.length≤30:=by
 have:=((cyRows_mem hg).1 h).1.short
 have:=hg.ed.len;have:=hg.ed.hi;omega
theorem acL_small:(acL n es).length≤100000000∧(∀ l∈acL n es,l.length≤4294967296)∧totL (acL n es)≤1000000000000:=by
 unfold acL
 split
 ·rename_i hc
  obtain ⟨hg,hn⟩:=acCode_zero hc
  have hp:(srtR (cyRows n es)).Perm (cyRows n es):=List.mergeSort_perm _ _
  have h1:(srtR (cyRows n es)).length≤28697814:=by
   rw [hp.length_eq];exact Nat.le_trans (cyRows_len hg hn es.length (Nat.le_refl _)) (by decide)
  have h2:∀ l∈srtR (cyRows n es),l.length≤30:=fun l hl=>cyRows_row hg (hp.mem_iff.1 hl)
  have h3:=tot_small (ls:=srtR (cyRows n es)) fun l hl=>by have:=h2 l hl;omega
  exact ⟨by omega,fun l hl=>by have:=h2 l hl;omega,by omega⟩
 ·exact ⟨by simp,by simp,by simp [totL]⟩
theorem specAllC_ok (h:Edges H v es) (hl:es.length≤1048576) (k:∀ v' G,H.le G→RowsS G v' (acL n es)→K (.tuple ⟨[v',.int .i64 (acCode n es)]⟩) G):AC Tryz.prog T0 18 [.agg ⟨[.int .i64 n,v]⟩] H K:=by
 apply F18.ac
 unfold F18.B6
 refine newK_f (all_iv (edges_one' h)) fun H1 l1 n1 o1=>?_
 unfold F18.B5
 refine ldI_own o1 rfl (ld1_own o1 rfl (l01Is_ok (h.le l1) hl fun H2 l2=>asB_mk ?_))
 have l02:=AHeap.le_trans l1 l2
 have o2:=o1.le l2
 have nil:RowsS H2 (.slice none 0 0) []:=⟨[],.nil,rfl,fun i hi=>absurd hi (by simp)⟩
 by_cases hg:IsG n es
 rotate_left
 ·have hc:acCode n es=1:=by unfold acCode;rw [if_neg hg]
  rw [decide_eq_false hg]
  refine pif_t rfl ?_
  unfold F18.B2
  have k:=k _ H2 l02 (by unfold acL;rw [hc];exact nil)
  rw [hc] at k;exact k
 rw [decide_eq_true hg]
 refine pif_f rfl ?_
 unfold F18.B4
 refine ldI_own o2 rfl (pif_cases (fun hb=>?_) fun hb=>?_)
 ·have hc:acCode n es=3:=by unfold acCode;rw [if_pos hg,if_pos (of_decide_eq_true hb)]
  unfold F18.B3
  have k:=k _ H2 l02 (by unfold acL;rw [hc];exact nil)
  rw [hc] at k;exact k
 ·have hn:n≤12:=by have:=of_decide_eq_false hb;omega
  have hc:acCode n es=0:=by unfold acCode;rw [if_pos hg,if_neg (by omega)]
  unfold F18.B1
  refine ldI_own o2 rfl (ld1_own o2 rfl (l07All_ok (h.le l02) hg hn fun v3 H4 l4 R4=>?_))
  have hcl:(cyRows n es).length≤28697814:=Nat.le_trans (cyRows_len hg hn es.length (Nat.le_refl _)) (by decide)
  refine l07Merge_ok (cyRows n es).length (Nat.le_refl _) (by omega) (fun r hr=>by have:=cyRows_row hg hr;omega) R4.toS fun v' R G lG hR hp hs=>?_
  have e:=acL_eq hc hs hp
  have k:=k v' G (AHeap.le_trans l02 (AHeap.le_trans l4 lG)) (by rw [← e];exact hR)
  rw [hc] at k;exact k
theorem implAllC_ok (h:Edges H v es) (hl:es.length≤1048576) (k:∀ v' G,H.le G→RowsF (fun b=>H.length≤b) G.length G v' (acL n es)→K (.tuple ⟨[v',.int .i64 (acCode n es)]⟩) G):AC Tryz.prog T0 17 [.agg ⟨[.int .i64 n,v]⟩] H K:=by
 refine implAll_ok h hl fun v' rows G lG h0 h1 hR=>k v' G lG ?_
 by_cases hc:acCode n es=0
 ·obtain ⟨hp,hs⟩:=h0 hc
  rw [← acL_eq hc hs hp];exact hR
 ·have e:=h1 hc
  unfold acL;rw [if_neg hc,← e];exact hR
end Go.Proofs
namespace Go.Proofs
open Go.Abs

variable {H G:AHeap} {v u f w:Value} {l m c:List Int} {es fs:List (Int × Int)} {K:Value→AHeap→Prop} {n d:Int} {A:Nat→Prop} {B:Nat} {ls:List (List Int)}

theorem rowsFS_ok (h:RowsF A B H v ls) (g:RowsS H u ls) (hl:ls.length≤1000000000) (hr:∀ l∈ls,l.length≤1000000000) (k:K (.bool true) H):AC Tryz.prog T0 9 [v,u] H K:=by
 apply F9.ac
 unfold F9.B10 F9.B9
 refine h.len (g.len (pif_f (by simp) ?_))
 unfold F9.B7 F9.L2
 refine ⟨fun x0 x1 x5 G=>v=x0∧u=x1∧H=G∧∃ i:Nat,x5=i∧i≤ls.length,fun _ _ x5 _=>ls.length-x5.toNat,⟨rfl,rfl,rfl,0,rfl,by omega⟩,?_⟩
 rintro x0 x1 x5 G ⟨rfl,rfl,rfl,i,rfl,hi⟩
 unfold F9.B6
 refine h.len (pif_cases (fun hb=>?_) fun hb=>?_)
 ·have hlt:i<ls.length:=by have:=of_decide_eq_true hb;omega
  have hm:(ls.getD i []).length≤1000000000:=by rw [getD_of hlt];exact hr _ (List.getElem_mem hlt)
  unfold F9.B5
  refine h.row hlt fun w fw=>g.row (AHeap.le_refl _) rfl hlt fun y fy=>likeInts_ok fw.ints fy hm (asB_mk (pif_f (by simp) ?_))
  unfold F9.B3
  rw [wrap_id (by omega) (by omega)]
  exact ⟨⟨rfl,rfl,rfl,i+1,by omega,by omega⟩,by simp;omega⟩
 ·unfold F9.B1
  exact k
theorem ed_zero (hg:IsG n es) (hS:IsS l es.length):edCode n es l=0:=by unfold edCode;rw [if_pos hg,if_pos hS]
theorem cy_zero (h:cyCode n es l=0):IsG n es∧IsS l es.length∧EvenS n es (bitB l):=by
 unfold cyCode at h
 by_cases hg:IsG n es
 ·rw [if_pos hg] at h
  by_cases hs:IsS l es.length
  ·rw [if_pos hs] at h
   by_cases he:EvenS n es (bitB l)
   ·exact ⟨hg,hs,he⟩
   ·rw [if_neg he] at h;cases h
  ·rw [if_neg hs] at h;cases h
 ·rw [if_neg hg] at h;cases h
theorem cy_small:(cyList n es l).length≤1000∧∀ r∈cyList n es l,r.length≤1000:=by
 unfold cyList
 by_cases h:cyCode n es l=0
 ·obtain ⟨hg,hS,hE⟩:=cy_zero h
  have h30:es.length≤30:=by have:=hg.ed.len;have:=hg.ed.hi;omega
  rw [if_pos h]
  refine ⟨?_,fun r hr=>by have:=(cycOf_cyc hS hE hr).1.short;omega⟩
  unfold cycOf
  rw [List.length_map]
  have:=hS.short
  exact Nat.le_trans (List.length_filter_le _ _) (by omega)
 ·rw [if_neg h];simp
theorem sum_zero {a b:List Int} (h:sumCode n es a b=0):IsG n es∧IsS a es.length∧IsS b es.length:=by
 unfold sumCode at h
 by_cases hg:IsG n es
 ·rw [if_pos hg] at h
  by_cases hs:IsS a es.length∧IsS b es.length
  ·exact ⟨hg,hs.1,hs.2⟩
  ·rw [if_neg hs] at h;cases h
 ·rw [if_neg hg] at h;cases h
theorem sum_of {a b:List Int} (hg:IsG n es) (h1:IsS a es.length) (h2:IsS b es.length):sumCode n es a b=0∧sumList n es a b=oneOf a b es.length:=by
 have h:sumCode n es a b=0:=by unfold sumCode;rw [if_pos hg,if_pos ⟨h1,h2⟩]
 exact ⟨h,by unfold sumList;rw [if_pos h]⟩
theorem oneOf_isS {a b:List Int} {m:Nat}:IsS (oneOf a b m) m:=asc_isS (filtB_asc (fun i=>decide ((i:Int)∈a) != decide ((i:Int)∈b)) _) fun y hy=>by
 obtain ⟨q,rfl,h1,_⟩:=mem_filtB (S:=fun i=>decide ((i:Int)∈a) != decide ((i:Int)∈b)).1 hy;omega
theorem uni_nil {m:Nat}:uni [] m=[]:=by
 apply List.eq_nil_iff_forall_not_mem.2
 intro x hx
 obtain ⟨j,rfl,hj,hp⟩:=mem_filtB.1 hx
 simp at hp
theorem uni_take (hS:IsS l es.length) {i:Nat} (hi:i<(cycOf es (bitB l) l).length) :
 oneOf (uni ((cycOf es (bitB l) l).take i) es.length) ((cycOf es (bitB l) l).getD i []) es.length=uni ((cycOf es (bitB l) l).take (i+1)) es.length:=by
 rw [List.take_succ_eq_append_getElem hi,← getD_of (d:=[]) hi]
 refine uni_step fun x hx c' hc'=>?_
 obtain ⟨j,hj,rfl⟩:=List.getElem_of_mem hc'
 rw [List.length_take] at hj
 have:=cycOf_disj hS (i:=j) (t:=i) (by omega) hi x hx
 rwa [getD_of (by omega),← List.getElem_take (j:=i) (h:=by rw [List.length_take];omega)] at this
theorem len_le {a b:List Int} (h:LeC cmpR a b):a.length≤b.length:=by
 refine Nat.le_of_not_lt fun hlt=>h ?_
 unfold cmpR
 rw [if_pos hlt];decide
theorem acL_pw:(acL n es).Pairwise (LeC cmpR):=by
 unfold acL
 by_cases h:acCode n es=0
 ·rw [if_pos h]
  have:=List.pairwise_mergeSort (le:=fun a b=>decide (LeC cmpR a b)) (fun a b c h1 h2=>by
   rw [decide_eq_true_iff] at *;exact cmpR_ord.tr _ _ _ h1 h2) (fun a b=>by
   by_cases h:cmpR a b<0
   ·rw [Bool.or_eq_true];left;exact decide_eq_true (cmpR_ord.lt h)
   ·rw [Bool.or_eq_true];right;exact decide_eq_true h) (cyRows n es)
  exact this.imp fun h=>of_decide_eq_true h
 ·rw [if_neg h];exact .nil
theorem mem_acL {r:List Int} (h:r∈acL n es):acCode n es=0∧r∈cyRows n es:=by
 unfold acL at h
 by_cases h0:acCode n es=0
 ·rw [if_pos h0] at h
  exact ⟨h0,(List.mergeSort_perm _ _).mem_iff.1 h⟩
 ·rw [if_neg h0] at h;cases h
theorem acL_mem {r:List Int} (h0:acCode n es=0) (h:r∈cyRows n es):r∈acL n es:=by
 unfold acL
 rw [if_pos h0]
 exact (List.mergeSort_perm _ _).mem_iff.2 h
theorem acL_first (h0:acCode n es=0) (hd:GirP n es d):0<(acL n es).length∧(((acL n es).getD 0 []).length:Int)=d:=by
 obtain ⟨⟨C,hC,hCd⟩,hall⟩:=hd
 have hm:=acL_mem h0 hC
 have hpos:0<(acL n es).length:=List.length_pos_of_mem hm
 refine ⟨hpos,?_⟩
 have h1:=hall _ (mem_acL (r:=(acL n es).getD 0 []) (by rw [getD_of hpos];exact List.getElem_mem _)).2
 obtain ⟨j,hj,hje⟩:=List.getElem_of_mem hm
 have h2:=len_le (pair_get acL_pw (i:=0) (j:=j) (by omega) hj)
 rw [getD_of hj,hje] at h2
 omega
theorem ev_key {a b c:Bool} {X Q:Prop} (h:a=true→c=b) (q:Q) :
 pif a (pif b (pif (!c) X (pif a (pif (!b) (pif c X Q) Q) Q)) (pif a (pif (!b) (pif c X Q) Q) Q)) (pif a (pif (!b) (pif c X Q) Q) Q):=by
 cases a <;> cases b <;> cases c <;> simp_all [pif]
theorem ev_val (hg:IsG n es) (hS:IsS l es.length):evB n es l=decide (EvenS n es (bitB l)):=by
 unfold evB;rw [if_pos (ed_zero hg hS)]
theorem ev_sum {a b:List Int} (h:sumCode n es a b=0) (ha:evB n es a=true):evB n es (sumList n es a b)=evB n es b:=by
 obtain ⟨hg,h1,h2⟩:=sum_zero h
 rw [(sum_of hg h1 h2).2,ev_val hg oneOf_isS,ev_val hg h2]
 rw [ev_val hg h1] at ha
 have ha:=@of_decide_eq_true _ (Classical.propDecidable _) ha
 exact decide_eq_decide.2 (sum_even h1 h2 ha)
end Go.Proofs
namespace Go.Proofs
open Go.Abs

variable {H G G' Hb:AHeap} {v u w:Value} {es fs:List (Int × Int)} {l c:List Int} {n:Int}

abbrev QC35:Value→AHeap→Prop:=fun v _=>v=.bool true
theorem ev_7 (hB:Byts H u l) (hl:l.length≤4096):F3.B7 QC35 u H:=by
 unfold F3.B7
 refine drawIsEven_ok hB hl fun v n es w c G lG hS fw c1 c2 _ _=>tup2_mk (agg2_mk (asI_mk (newK_f rfl fun H2 l2 n2 o2=>stK_f (new:=[.int .i64 n,v]) o2 (by simp) (mem_iv (sl_one hS)) rfl fun H3 b3 o3=>?_)))
 have l3:G.le H3:=b3.le l2 (Nat.le_refl _)
 have hE:=(sl_edges hS).le l3
 have hw:=fw.ints.le l3
 have l03:=AHeap.le_trans lG l3
 unfold F3.B6
 refine ldI_own o3 rfl (ld1_own o3 rfl (implIsEven_ok hE (by omega) hw (by omega) fun H4 l4=>tup2_mk (asB_mk (asI_mk ?_))))
 have o4:=o3.le l4;have hE4:=hE.le l4;have hw4:=hw.le l4
 unfold F3.B5
 refine ldI_own o4 rfl (ld1_own o4 rfl (specIsEven_ok hE4 (by omega) hw4 (by omega) fun H5 l5=>tup2_mk (asB_mk (asI_mk ?_))))
 have l05:=AHeap.le_trans l03 (AHeap.le_trans l4 l5)
 unfold F3.B4
 refine drawIsCycle_ok (hB.le l05) hl fun v' n' es' w' c' G' lG' hS' fw' c1' c2' _ _=>tup2_mk (agg2_mk (asI_mk (newK_f rfl fun H6 l6 n6 o6=>stK_f (new:=[.int .i64 n',v']) o6 (by simp) (mem_iv (sl_one hS')) rfl fun H7 b7 o7=>?_)))
 have l7:G'.le H7:=b7.le l6 (Nat.le_refl _)
 have hE7:=(sl_edges hS').le l7
 have hw7:=fw'.ints.le l7
 unfold F3.B3
 refine ldI_own o7 rfl (ld1_own o7 rfl (implIsCycle_ok hE7 (by omega) hw7 (by omega) fun H8 l8=>tup2_mk (asB_mk (asI_mk ?_))))
 have o8:=o7.le l8;have hE8:=hE7.le l8;have hw8:=hw7.le l8
 unfold F3.B2
 refine ldI_own o8 rfl (ld1_own o8 rfl (specIsCycle_ok hE8 (by omega) hw8 (by omega) fun H9 l9=>tup2_mk (asB_mk (asI_mk ?_))))
 unfold F3.B1
 exact pif_t (by simp) (pif_t (by simp) (pif_t (by simp) (by simp [QC35])))
theorem ev_11 {x28:Nat} {x29:Value} {A:Nat→Prop} {B:Nat} (hB:Byts H u l) (hl:l.length≤4096) (o:Own H x28 26 [.int .i64 n,v]) (hE:Edges H v es) (c1:es.length≤2000) (hR:RowsF A B H x29 (acL n es)) :
 F3.B11 QC35 u x28 x29 (acCode n es) H:=by
 unfold F3.B11
 refine pif_cases (fun hs=>?_) fun _=>ev_7 hB hl
 have h0:acCode n es=0:=beq_iff_eq.1 hs
 have hg:=(acCode_zero h0).1
 unfold F3.B10
 refine ldI_own o rfl (ld1_own o rfl (girth_ok hE (by omega) fun d e G lG hd0=>tup2_mk (asI_mk (asI_mk ?_))))
 obtain ⟨rfl,hd⟩:=hd0 hg
 obtain ⟨f1,f2⟩:=acL_first h0 hd
 have hR':=hR.le lG
 unfold F3.B9
 refine pif_f rfl (hR'.len (pif_f (by simp;omega) (hR'.toS.row (AHeap.le_refl _) (i:=0) rfl f1 fun w hw=>hw.len (pif_f ?_ (ev_7 (hB.le lG) hl)))))
 rw [f2];simp
theorem ev_23 (hB:Byts H u l) (hl:l.length≤4096):F3.B23 QC35 u H:=by
 unfold F3.B23
 refine drawAll_ok hB hl fun v n es G lG hS c1=>agg2_mk (asI_mk (newK_f rfl fun H2 l2 n2 o2=>stK_f (new:=[.int .i64 n,v]) o2 (by simp) (mem_iv (sl_one hS)) rfl fun H3 b3 o3=>?_))
 have l3:G.le H3:=b3.le l2 (Nat.le_refl _)
 have hE:=(sl_edges hS).le l3
 have l03:=AHeap.le_trans lG l3
 unfold F3.B22
 refine ldI_own o3 rfl (ld1_own o3 rfl (implAllC_ok hE (by omega) fun x29 H4 l4 hR=>tup2_mk (asI_mk ?_)))
 have o4:=o3.le l4;have hE4:=hE.le l4
 unfold F3.B21
 refine ldI_own o4 rfl (ld1_own o4 rfl (specAllC_ok hE4 (by omega) fun x31 H5 l5 hRS=>tup2_mk (asI_mk ?_)))
 have o5:=o4.le l5;have hE5:=hE4.le l5;have hR5:=hR.le l5
 have l05:=AHeap.le_trans l03 (AHeap.le_trans l4 l5)
 have sm:(acL n es).length≤100000000:=acL_small.1
 have sr:∀ r∈acL n es,r.length≤30:=fun r hr=>cyRows_row (acCode_zero (mem_acL hr).1).1 (mem_acL hr).2
 unfold F3.B20
 refine pif_f (by simp) (rowsFS_ok hR5 hRS (by omega) (fun r hr=>by have:=sr r hr;omega) (asB_mk (pif_f rfl ?_)))
 unfold F3.B18 F3.L12
 refine ⟨fun x0 x28 y29 x30 x33 G'=>u=x0∧G.length=x28∧x29=y29∧acCode n es=x30∧H5.le G'∧∃ i:Nat,x33=i∧i≤(acL n es).length,fun _ _ _ _ x33 _=>(acL n es).length-x33.toNat,⟨rfl,rfl,rfl,rfl,AHeap.le_refl _,0,rfl,by omega⟩,?_⟩
 rintro x0 x28 y29 x30 x33 G' ⟨rfl,rfl,rfl,rfl,lG',i,rfl,hi⟩
 have oG:=o5.le lG';have hEG:=hE5.le lG';have hRG:=hR5.le lG'
 have hBG:=hB.le (AHeap.le_trans l05 lG')
 unfold F3.B17
 refine hRG.len (pif_cases (fun hb=>?_) fun _=>ev_11 hBG hl oG hEG c1 hRG)
 have hlt:i<(acL n es).length:=by have:=of_decide_eq_true hb;omega
 have hm:(acL n es).getD i []∈acL n es:=by rw [getD_of hlt];exact List.getElem_mem hlt
 obtain ⟨h0,hc⟩:=mem_acL hm
 have hg:=(acCode_zero h0).1
 obtain ⟨hS,hcy⟩:=(cyRows_mem hg).1 hc
 refine pif_cases (fun _=>?_) fun _=>ev_11 hBG hl oG hEG c1 hRG
 unfold F3.B16
 refine ldI_own oG rfl (ld1_own oG rfl (hRG.toS.row (AHeap.le_refl _) rfl hlt fun y hy=>implIsCycle_ok hEG (by omega) hy (by have:=sr _ hm;omega) fun H6 l6=>tup2_mk (asB_mk (asI_mk ?_))))
 have hR6:=(hRG.le l6).toS
 have hic:icB n es ((acL n es).getD i [])=true:=by unfold icB;rw [if_pos (ed_zero hg hS)];exact hcy
 have more:F3.B13 QC35 (fun y0 y28 z29 y30 y33 G''=>(u=y0∧G.length=y28∧x29=z29∧acCode n es=y30∧H5.le G''∧∃ i:Nat,y33=i∧i≤(acL n es).length)∧(acL n es).length-y33.toNat<(acL n es).length-((i:Nat):Int).toNat) u G.length x29 (acCode n es) (i:Int) H6:=by
  unfold F3.B13
  rw [wrap_id (by omega) (by omega)]
  exact ⟨⟨rfl,rfl,rfl,rfl,AHeap.le_trans lG' l6,i+1,by omega,by omega⟩,by simp;omega⟩
 unfold F3.B15
 rw [ed_zero hg hS,hic]
 refine pif_f rfl (pif_f rfl (pif_cases (fun hp=>?_) fun _=>more))
 have hi0:0<i:=by have:=of_decide_eq_true hp;omega
 rw [wrap_id (by omega) (by omega)]
 refine hR6.row (AHeap.le_refl _) (i:=i-1) (by omega) (by omega) fun y1 hy1=>hy1.len (hR6.row (AHeap.le_refl _) rfl hlt fun y2 hy2=>hy2.len (pif_f ?_ more))
 have:=len_le (pair_get acL_pw (i:=i-1) (j:=i) (by omega) hlt)
 exact decide_eq_false (by omega)
theorem ev_34 (hB:Byts H u l) (hl:l.length≤4096):F3.B34 QC35 u H:=by
 unfold F3.B34
 refine drawSum_ok hB hl fun v n es w a y b G lG hS fw fy c1 c2 c3=>tup3_mk (agg2_mk (asI_mk (newK_f rfl fun H2 l2 n2 o2=>stK_f (new:=[.int .i64 n,v]) o2 (by simp) (mem_iv (sl_one hS)) rfl fun H3 b3 o3=>?_)))
 have l3:G.le H3:=b3.le l2 (Nat.le_refl _)
 have hE:=(sl_edges hS).le l3
 have hw:=fw.ints.le l3;have hy:=fy.ints.le l3
 have l03:=AHeap.le_trans lG l3
 unfold F3.B33
 refine ldI_own o3 rfl (ld1_own o3 rfl (implSum_ok hE (by omega) hw (by omega) hy (by omega) fun x18 H4 l4 f4=>tup2_mk (asI_mk ?_)))
 have o4:=o3.le l4;have hE4:=hE.le l4;have hw4:=hw.le l4;have hy4:=hy.le l4
 unfold F3.B32
 refine ldI_own o4 rfl (ld1_own o4 rfl (specSum_ok hE4 (by omega) hw4 (by omega) hy4 (by omega) fun x20 H5 l5 f5=>tup2_mk (asI_mk ?_)))
 have o5:=o4.le l5;have hE5:=hE4.le l5;have hw5:=hw4.le l5;have hy5:=hy4.le l5
 have f45:=f4.ints.le l5
 have l05:=AHeap.le_trans l03 (AHeap.le_trans l4 l5)
 have hsl:(sumList n es a b).length≤2000:=by
  unfold sumList
  split
  ·have:=(oneOf_isS (a:=a) (b:=b) (m:=es.length)).short;omega
  ·simp
 unfold F3.B31
 refine pif_f (by simp) (likeInts_ok f45 f5.ints (by omega) (asB_mk (pif_f rfl ?_)))
 unfold F3.B29
 refine pif_cases (fun hs=>?_) fun _=>ev_23 (hB.le l05) hl
 have h0:sumCode n es a b=0:=beq_iff_eq.1 hs
 obtain ⟨hg,hSa,hSb⟩:=sum_zero h0
 unfold F3.B28
 refine ldI_own o5 rfl (ld1_own o5 rfl (implIsEven_ok hE5 (by omega) hw5 (by omega) fun H6 l6=>tup2_mk (asB_mk (asI_mk ?_))))
 have o6:=o5.le l6;have hE6:=hE5.le l6;have hy6:=hy5.le l6;have f6:=f45.le l6
 unfold F3.B27
 refine ldI_own o6 rfl (ld1_own o6 rfl (implIsEven_ok hE6 (by omega) hy6 (by omega) fun H7 l7=>tup2_mk (asB_mk (asI_mk ?_))))
 have o7:=o6.le l7;have hE7:=hE6.le l7;have f7:=f6.le l7
 unfold F3.B26
 refine ldI_own o7 rfl (ld1_own o7 rfl (implIsEven_ok hE7 (by omega) f7 (by omega) fun H8 l8=>tup2_mk (asB_mk (asI_mk ?_))))
 have l08:=AHeap.le_trans l05 (AHeap.le_trans l6 (AHeap.le_trans l7 l8))
 have hss:IsS (sumList n es a b) es.length:=by rw [(sum_of hg hSa hSb).2];exact oneOf_isS
 unfold F3.B25
 rw [ed_zero hg hSa,ed_zero hg hSb,ed_zero hg hss]
 exact pif_f rfl (pif_f rfl (pif_f rfl (ev_key (ev_sum h0) (ev_23 (hB.le l08) hl))))
theorem fnEvenSets_law (H:AHeap) (vs:List Value) (hv:AVs T0 H [22] vs):AC Tryz.prog T0 3 vs H (fun v _=>v=.bool true):=by
 obtain ⟨v0,vs,rfl,a0,rfl⟩:=hv
 obtain ⟨l,hB,hlen⟩:=av_bytes a0
 apply F3.ac
 unfold F3.B55 F3.B54
 refine big_ok hB (asB_mk (pif_cases (fun _=>by unfold F3.B53;rfl) fun hs=>?_))
 have hl:l.length≤4096:=by have:=of_decide_eq_false hs;omega
 unfold F3.B52
 refine drawCycles_ok hB hl fun v n es w c G lG hS fw c1 c2 _ _=>tup2_mk (agg2_mk (asI_mk (newK_f rfl fun H2 l2 n2 o2=>stK_f (new:=[.int .i64 n,v]) o2 (by simp) (mem_iv (sl_one hS)) rfl fun H3 b3 o3=>?_)))
 have l3:G.le H3:=b3.le l2 (Nat.le_refl _)
 have hE:=(sl_edges hS).le l3
 have hw:=fw.ints.le l3
 have l03:=AHeap.le_trans lG l3
 unfold F3.B51
 refine ldI_own o3 rfl (ld1_own o3 rfl (implCycles_ok hE (by omega) hw (by omega) fun x5 H4 l4 hR=>tup2_mk (asI_mk ?_)))
 have o4:=o3.le l4;have hE4:=hE.le l4;have hw4:=hw.le l4
 unfold F3.B50
 refine ldI_own o4 rfl (ld1_own o4 rfl (specCycles_ok hE4 (by omega) hw4 (by omega) fun x7 H5 l5 hR2=>tup2_mk (asI_mk ?_)))
 have o5:=o4.le l5;have hE5:=hE4.le l5;have hw5:=hw4.le l5;have hR5:=hR.le l5
 have l05:=AHeap.le_trans l03 (AHeap.le_trans l4 l5)
 obtain ⟨q1,q2⟩:=cy_small (n:=n) (es:=es) (l:=c)
 unfold F3.B49
 refine pif_f (by simp) (rows5_ok hR5 hR2 (by omega) (fun r hr=>by have:=q2 r hr;omega) (asB_mk (pif_f rfl ?_)))
 unfold F3.B47
 refine pif_cases (fun hs=>?_) fun _=>ev_34 (hB.le l05) hl
 have h0:cyCode n es c=0:=beq_iff_eq.1 hs
 obtain ⟨hg,hSc,hEv⟩:=cy_zero h0
 have h30:es.length≤30:=by have:=hg.ed.len;have:=hg.ed.hi;omega
 obtain ⟨cs,hcs⟩:∃ cs,cs=cycOf es (bitB c) c:=⟨_,rfl⟩
 have hcy:cyList n es c=cs:=by unfold cyList;rw [if_pos h0,hcs]
 rw [hcy] at hR5 q1
 unfold F3.B46
 refine newK_f rfl fun H6 l6 n6 o6=>?_
 unfold F3.B45 F3.L37
 have o56:=o5.le l6;have hE6:=hE5.le l6;have hw6:=hw5.le l6;have hR6:=hR5.le l6
 have hB6:=hB.le (AHeap.le_trans l05 l6)
 refine ⟨fun x0 x3 x4 y5 x9 x10 G'=>v0=x0∧G.length=x3∧w=x4∧x5=y5∧H6.le G'∧∃ i:Nat,x10=i∧i≤cs.length∧Ints G' x9 (uni (cs.take i) es.length),fun _ _ _ _ _ x10 _=>cs.length-x10.toNat,⟨rfl,rfl,rfl,rfl,AHeap.le_refl _,0,rfl,by omega,?_⟩,?_⟩
 ·rw [List.take_zero,uni_nil]
  exact own_ints (l:=[]) o6
 rintro x0 x3 x4 y5 x9 x10 G' ⟨rfl,rfl,rfl,rfl,lG',i,rfl,hi,hU⟩
 have oG:=o56.le lG';have hEG:=hE6.le lG';have hwG:=hw6.le lG';have hRG:=hR6.le lG'
 have hul:(uni (cs.take i) es.length).length≤30:=by have:=(uni_isS (cs:=cs.take i) (m:=es.length)).short;omega
 unfold F3.B44
 refine hRG.len (pif_cases (fun hb=>?_) fun hb=>?_)
 ·have hlt:i<cs.length:=by have:=of_decide_eq_true hb;omega
  have hm:cs.getD i []∈cs:=by rw [getD_of hlt];exact List.getElem_mem hlt
  obtain ⟨hSr,hcr⟩:=cycOf_cyc hSc hEv (by rw [hcs] at hm ⊢;exact hm:cs.getD i []∈cycOf es (bitB c) c)
  have hrl:=hSr.short
  unfold F3.B43
  refine ldI_own oG rfl (ld1_own oG rfl (hRG.toS.row (AHeap.le_refl _) rfl hlt fun y hy=>implIsCycle_ok hEG (by omega) hy (by omega) fun H7 l7=>tup2_mk (asB_mk (asI_mk ?_))))
  have o7:=oG.le l7;have hE7:=hEG.le l7;have hR7:=(hRG.le l7).toS;have hU7:=hU.le l7
  have hic:icB n es (cs.getD i [])=true:=by unfold icB;rw [if_pos (ed_zero hg hSr)];exact hcr
  obtain ⟨s0,s1⟩:=sum_of hg (uni_isS (cs:=cs.take i) (m:=es.length)) hSr
  unfold F3.B42
  refine ldI_own o7 rfl (ld1_own o7 rfl (hR7.row (AHeap.le_refl _) rfl hlt fun y hy=>implSum_ok hE7 (by omega) hU7 (by omega) hy (by omega) fun x13 H8 l8 f8=>tup2_mk (asI_mk ?_)))
  rw [s1,hcs,uni_take hSc (by rw [← hcs];exact hlt),← hcs] at f8
  unfold F3.B41
  rw [ed_zero hg hSr,hic,s0]
  refine pif_f rfl (pif_f rfl (pif_f rfl ?_))
  unfold F3.B39 F3.B38
  rw [wrap_id (by omega) (by omega)]
  exact ⟨⟨rfl,rfl,rfl,rfl,AHeap.le_trans lG' (AHeap.le_trans l7 l8),i+1,by omega,by omega,f8.ints⟩,by simp;omega⟩
 ·have hie:i=cs.length:=by have:=of_decide_eq_false hb;omega
  subst hie
  rw [List.take_length,hcs,uni_all hSc] at hU
  unfold F3.B36
  exact likeInts_ok hU hwG (by omega) (asB_mk (pif_f rfl (ev_34 (hB6.le lG') hl)))
end Go.Proofs
