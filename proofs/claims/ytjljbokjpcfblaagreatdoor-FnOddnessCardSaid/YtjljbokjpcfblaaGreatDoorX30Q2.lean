/- Contracts and plain mathematics for a law, merged. -/
import Derived.StringKeys
import Derived.Test.YtjljbokjpcfblaaGreatDoorX30Q1
set_option linter.unusedVariables false
set_option linter.unusedSimpArgs false
set_option maxRecDepth 100000
namespace Go.Proofs
open Go.Abs

variable {H G:AHeap} {v u f:Value} {l m c D:List Int} {es fs:List (Int × Int)} {K:Value→AHeap→Prop} {A A':Nat→Prop} {B:Nat} {ls ms:List (List Int)}

noncomputable def lensTo (es:List (Int × Int)) (p:Nat→Bool):Nat→List Nat
 | 0=>[]
 | k+1=>lensTo es p k++if p k=true∧cLeadB es p k=true then [(compL es p k).length] else []
def ETo (es:List (Int × Int)) (p:Nat→Bool) (k j:Nat):Prop:=p j=true∧∃ a,a<k∧p a=true∧Rch (eAdj es p) a j
theorem ETo.closed {p:Nat→Bool} {k a b:Nat} (h:ETo es p k a) (hab:eAdj es p a b):ETo es p k b:=by
 obtain ⟨_,c,h1,h2,h3⟩:=h
 exact ⟨hab.2.1,c,h1,h2,.step h3 hab⟩
theorem ETo.lead {p:Nat→Bool} {k:Nat} (hp:p k=true):ETo es p k k↔cLeadB es p k=false:=by
 rw [← Bool.not_eq_true,cLeadB_iff]
 unfold cLead ETo
 constructor
 ·rintro ⟨_,a,h1,h2,h3⟩ h
  exact h a h1 h2 h3
 ·intro h
  refine ⟨hp,Classical.byContradiction fun hn=>h fun j h1 h2 h3=>hn ⟨j,h1,h2,h3⟩⟩
theorem ETo.succ {p:Nat→Bool} {k j:Nat}:ETo es p (k+1) j↔ETo es p k j∨(p k=true∧p j=true∧Rch (eAdj es p) k j):=by
 unfold ETo
 constructor
 ·rintro ⟨h0,a,h1,h2,h3⟩
  by_cases e:a=k
  ·subst e;exact .inr ⟨h2,h0,h3⟩
  ·exact .inl ⟨h0,a,by omega,h2,h3⟩
 ·rintro (⟨h0,a,h1,h2,h3⟩|⟨h1,h2,h3⟩)
  ·exact ⟨h0,a,by omega,h2,h3⟩
  ·exact ⟨h2,k,by omega,h1,h3⟩
theorem ETo.skip {p:Nat→Bool} {k j:Nat} (h:ETo es p k k∨p k=false):ETo es p (k+1) j↔ETo es p k j:=by
 rw [ETo.succ]
 refine ⟨fun h'=>h'.elim id fun ⟨h1,h2,h3⟩=>?_,.inl⟩
 rcases h with ⟨_,a,g1,g2,g3⟩|h
 ·exact ⟨h2,a,g1,g2,g3.trans h3⟩
 ·rw [h] at h1;cases h1
theorem lensTo_skip {p:Nat→Bool} {k:Nat} (h:ETo es p k k∨p k=false):lensTo es p (k+1)=lensTo es p k:=by
 rw [lensTo,if_neg,List.append_nil]
 rintro ⟨h1,h2⟩
 rcases h with h|h
 ·rw [ETo.lead h1] at h;rw [h] at h2;cases h2
 ·rw [h] at h1;cases h1
theorem l04Cycles_ok {n:Int} (h:Edges H v es) (hg:IsG n es) (hc:Ints H u l) (hS:IsS l es.length) (ho:OneAt n es l)
 (k:∀ v' G cs,H.le G→RowsF (fun b=>H.length≤b) G.length G v' cs→cs.map List.length=lensTo es (leftP l) es.length→K v' G):AC Tryz.prog T0 34 [.agg ⟨[.int .i64 n,v]⟩,u] H K:=by
 have n0:=hg.ed.lo;have n1:=hg.ed.hi
 have h30:es.length≤30:=by have:=hg.ed.len;omega
 have hll:l.length≤es.length:=by rw [hS.filt];exact filtB_length _ _
 obtain ⟨p,hp⟩:∃ p,p=leftP l:=⟨_,rfl⟩
 have hdeg:∀ x:Nat,(x:Int)<n→degB es p x=2:=fun x hx=>by rw [hp];exact left_deg hg hS ho hx
 rw [← hp] at k
 have hpm:∀ j:Nat,p j=true↔(j:Int)∉l:=fun j=>by
  rw [hp];unfold leftP
  rw [Bool.not_eq_true',← Bool.not_eq_true,bitB_mem hS]
 have hend:∀ i,i<es.length→∀ x:Int,on (es.getD i (0,0)) x=true→0≤x∧x<n:=fun i hi x hx=>by
  obtain ⟨d1,d2,d3,d4,d5⟩:=hg.ed.ends es[i] (List.getElem_mem hi)
  rw [← getD_of (d:=(0,0)) hi] at d1 d2 d3 d4 d5
  unfold on at hx
  simp only [Bool.or_eq_true,beq_iff_eq] at hx
  omega
 apply F34.ac
 unfold F34.B23
 refine newK_f (all_iv (edges_one' h)) fun H1 l1 n1' o1=>?_
 unfold F34.B22
 refine ld1_own o1 rfl ((h.le l1).len (mkR_int (by omega) (by omega) (by decide) fun H2 l2 n2 o2=>newK_f rfl fun H3 l3 n3 o3=>?_))
 rw [Int.toNat_natCast,rep_b] at o2
 rw [Int.toNat_natCast]
 obtain ⟨pm,hpmb⟩:∃ pm,pm=H1.length:=⟨_,rfl⟩
 rw [← hpmb] at o2 ⊢
 have b1:=l1.1
 have l13:=AHeap.le_trans l2 l3
 have o2':=o2.le l3
 unfold F34.B21 F34.L2
 refine ⟨fun x1 x2 x5 x6 x7 G=>u=x1∧H.length=x2∧.slice (some ⟨pm,0,none⟩) es.length (es.length+1)=x5∧H1.le G∧∃ i:Nat,x7=i∧i≤es.length∧∃ S cs,Own G pm 4 (LB S)∧S.length=es.length∧(∀ j,j<es.length→(S.getD j false=true↔ETo es p i j))∧RowsF (fun b=>pm<b) G.length G x6 cs∧cs.length≤i∧cs.map List.length=lensTo es p i,
  fun _ _ _ _ x7 _=>es.length-x7.toNat,⟨rfl,rfl,rfl,l13,0,rfl,by omega,List.replicate es.length false,[],o2',by simp,fun j hj=>?_,.nil1 o3 (by omega) (by omega),by simp,rfl⟩,?_⟩
 ·have:(List.replicate es.length false).getD j false=false:=by simp [List.getD,List.getElem?_replicate,hj]
  rw [this]
  refine ⟨(fun h=>by cases h),fun ⟨_,a,h,_⟩=>absurd h (by omega)⟩
 clear o2 o2' o3 l13 l3 l2
 rintro x1 x2 x5 x6 x7 G ⟨rfl,rfl,rfl,hG,i,rfl,hi,S,cs,oS,hSl,hSe,hR,hcl,hlen⟩
 have lG:=AHeap.le_trans l1 hG
 have oG:=o1.le hG
 unfold F34.B20
 refine ld1_own oG rfl ((h.le lG).len (pif_cases (fun hb=>?_) fun hb=>?_))
 ·have hil:i<es.length:=by have:=of_decide_eq_true hb;omega
  have skip:(ETo es p i i∨p i=false)→∀ N2:Value→Nat→Value→Value→Int→AHeap→Prop,((u=u∧H.length=H.length∧True∧H1.le G∧∃ i':Nat,(i:Int)+1=i'∧i'≤es.length∧∃ S cs,Own G pm 4 (LB S)∧S.length=es.length∧(∀ j,j<es.length→(S.getD j false=true↔ETo es p i' j))∧RowsF (fun b=>pm<b) G.length G x6 cs∧cs.length≤i'∧cs.map List.length=lensTo es p i')→N2 u H.length (.slice (some ⟨pm,0,none⟩) es.length (es.length+1)) x6 ((i:Int)+1) G)→F34.B3 K N2 u H.length (.slice (some ⟨pm,0,none⟩) es.length (es.length+1)) x6 (i:Nat) G:=by
   intro hs N2 hN
   unfold F34.B3
   rw [wrap_id (by omega) (by omega)]
   refine hN ⟨rfl,rfl,trivial,hG,i+1,by omega,by omega,S,cs,oS,hSl,fun j hj=>?_,hR,by omega,?_⟩
   ·rw [hSe j hj,ETo.skip hs]
   ·rw [lensTo_skip hs,hlen]
  unfold F34.B19
  refine own_idx (by omega) (by omega) (ld1_own oS (by rw [Int.toNat_natCast];exact LB_get (by omega)) (asB_mk (pif_cases (fun hb=>?_) fun hb=>?_)))
  ·refine skip (.inl ((hSe i hil).1 hb)) _ fun ⟨a1,a2,_,a4,i',e,a5,a6⟩=>⟨⟨rfl,rfl,rfl,a4,i',e,a5,a6⟩,by show es.length-((i:Int)+1).toNat<es.length-(i:Int).toNat;omega⟩
  have hnE:¬ ETo es p i i:=fun h=>by have:=(hSe i hil).2 h;rw [this] at hb;cases hb
  refine l04Has_ok (hc.le lG) (by omega) (asB_mk (pif_cases (fun hb=>?_) fun hb=>?_))
  ·have hpi:p i=false:=by
    have:=of_decide_eq_true hb
    cases hx:p i with
    | false=>rfl
    | true=>exact absurd this ((hpm i).1 hx)
   refine skip (.inr hpi) _ fun ⟨a1,a2,_,a4,i',e,a5,a6⟩=>⟨⟨rfl,rfl,rfl,a4,i',e,a5,a6⟩,by show es.length-((i:Int)+1).toNat<es.length-(i:Int).toNat;omega⟩
  clear skip
  have hpi:p i=true:=(hpm i).2 (of_decide_eq_false hb)
  have hlead:cLeadB es p i=true:=by
   cases hx:cLeadB es p i with
   | true=>rfl
   | false=>exact absurd ((ETo.lead hpi).2 hx) hnE
  obtain ⟨d1,d2,d3,d4,d5⟩:=hg.ed.ends es[i] (List.getElem_mem hil)
  rw [← getD_of (d:=(0,0)) hil] at d1 d2 d3 d4 d5
  obtain ⟨a0,ha0⟩:∃ a0:Nat,(es.getD i (0,0)).1=a0:=⟨(es.getD i (0,0)).1.toNat,by omega⟩
  obtain ⟨z0,hz0⟩:∃ z0:Nat,(es.getD i (0,0)).2=z0:=⟨(es.getD i (0,0)).2.toNat,by omega⟩
  unfold F34.B18
  obtain ⟨bb,oo,hk,c1,c2⟩:=(h.le lG).idx (show (0:Int)≤i by omega) (by omega)
  simp only [Int.toNat_natCast] at c1 c2
  refine ld1_own oG rfl (hk _ (ldI_mk c2 (newK_f rfl fun G1 lg1 ng1 og1=>?_)))
  rw [hz0]
  have hpmG:pm<G.length:=oS.lt
  have hGl:=lg1.1
  unfold F34.L5
  refine ⟨fun x1 x2 x5 x6' x7 x8 x9 x10 G'=>u=x1∧H.length=x2∧.slice (some ⟨pm,0,none⟩) es.length (es.length+1)=x5∧x6=x6'∧(i:Int)=x7∧H1.le G'∧G.length≤G'.length∧RowsF (fun b=>pm<b) G.length G' x6 cs∧∃ (now w z:Nat) (C:List Int) (S':List Bool),x9=now∧x10=z∧Fresh G.length G' x8 2 1 (LI C)∧Own G' pm 4 (LB S')∧S'.length=es.length∧(∀ j,j<es.length→(S'.getD j false=true↔ETo es p i j∨(j:Int)∈C))∧Walk n es p i a0 (ETo es p i) C now w z,
   fun _ _ _ _ _ x8 _ _ _=>es.length-lenV x8,⟨rfl,rfl,rfl,rfl,rfl,AHeap.le_trans hG lg1,hGl,hR.le lg1,i,a0,z0,[],S,rfl,rfl,.inr ⟨_,0,Nat.le_refl _,rfl,og1,rfl⟩,oS.le lg1,hSl,fun j hj=>by rw [hSe j hj];simp,?_⟩,?_⟩
  ·refine ⟨(fun i hi=>by cases hi),List.nodup_nil,fun x=>by simp [degC],hil,hpi,.refl,?_,?_,by omega,by omega,by omega,.inl ⟨rfl,rfl,rfl⟩⟩
   ·unfold on;rw [ha0];simp
   ·unfold on;rw [hz0];simp
  clear oS hSl hSe hR og1 ng1 hk c1 c2 oG lG
  rintro x1 x2 x5 x6' x7 x8 x9 x10 G2 ⟨rfl,rfl,rfl,rfl,rfl,hG2,hGl2,hR,now,w,z,C,S,rfl,rfl,hF,oS,hSl,hSe,hW⟩
  have lG2:=AHeap.le_trans l1 hG2
  have oG2:=o1.le hG2
  have hnl:=hW.lt
  have hCl:C.length≤es.length:=by
   have:=nodup_sub (m:=upto es.length) hW.nd fun x hx=>by
    obtain ⟨j,rfl,h1,_⟩:=hW.mem x hx
    unfold upto;exact List.mem_map.2 ⟨j,List.mem_range.2 h1,rfl⟩
   rwa [upto_length] at this
  unfold F34.B17
  refine own_idx (by omega) (by omega) (ld1_own oS (by rw [Int.toNat_natCast];exact LB_get (by omega)) (asB_mk (pif_cases (fun hb=>?_) fun hb=>?_)))
  ·have hnot:¬ (ETo es p i now∨(now:Int)∈C):=fun h=>by
    have:=(hSe now hnl).2 h;rw [this] at hb;cases hb
   have hnC:(now:Int)∉C:=fun h=>hnot (.inr h)
   have hCl':C.length+1≤es.length:=by
    have:=nodup_sub (l:=C++[(now:Int)]) (m:=upto es.length) (by
     rw [List.nodup_append]
     refine ⟨hW.nd,by simp,fun a ha b hb=>?_⟩
     rw [List.mem_singleton] at hb
     rintro rfl
     rw [hb] at ha;exact hnC ha) fun x hx=>by
     unfold upto
     rcases List.mem_append.1 hx with hx|hx
     ·obtain ⟨j,rfl,h1,_⟩:=hW.mem x hx
      exact List.mem_map.2 ⟨j,List.mem_range.2 h1,rfl⟩
     ·rw [List.mem_singleton] at hx
      exact List.mem_map.2 ⟨now,List.mem_range.2 hnl,hx.symm⟩
    rw [upto_length] at this
    simpa using this
   unfold F34.B16
   refine own_idx (by omega) (by omega) (stK_1 oS (by simp;omega) rfl fun G3 b3 o3=>?_)
   rw [Int.toNat_natCast,← List.map_set] at o3
   have hF3:=hF.but b3 hpmG
   have hR3:=hR.but b3 (by omega)
   have hG3:=b3.le hG2 (by omega)
   unfold F34.B15
   refine hF3.sl.pushN E_int (by decide) (by rw [b3.len];exact hGl2) (n:=1) (ys:=[.int .i64 now]) rfl rfl (by simp;omega) (by simp) fun x8' G4 k4 ot4 nb4 f4=>?_
   have hk4:=k4.len
   have hG4:=k4.le hG3 (by have:=hG.1;omega)
   have lG4:=AHeap.le_trans l1 hG4
   have o4:=k4.own o3 hpmG
   have hR4:=hR3.keep k4
   unfold F34.B14
   have hzn:=hW.vn
   refine ldI_own (o1.le hG4) rfl (ld1_own (o1.le hG4) rfl (l01At_ok (h.le lG4) (by omega) fun a G5 l5 f5=>?_))
   have h3:=hg.three (v:=(z:Int)) (by omega) (by omega)
   have lG5:=AHeap.le_trans lG4 l5
   have hex:=other_left (hdeg z hzn) hnl
   unfold F34.B13 F34.L8
   refine ⟨fun y1 y2 y5 y6 y7 y8 y9 y10 y11 y12 y13 G'=>u=y1∧H.length=y2∧.slice (some ⟨pm,0,none⟩) es.length (es.length+1)=y5∧x6=y6∧(i:Int)=y7∧x8'=y8∧(now:Int)=y9∧(z:Int)=y10∧a=y11∧G5=G'∧∃ t:Nat,y13=t∧t≤3∧((y12=now∧∀ j,j<t→(atL es (z:Int)).getD j 0=now∨(atL es (z:Int)).getD j 0∈l)∨∃ q:Nat,y12=q∧q<es.length∧p q=true∧q≠now∧on (es.getD q (0,0)) z=true),
    fun _ _ _ _ _ _ _ _ _ _ y13 _=>3-y13.toNat,⟨rfl,rfl,rfl,rfl,rfl,rfl,rfl,rfl,rfl,rfl,0,rfl,by omega,.inl ⟨rfl,fun j hj=>absurd hj (by omega)⟩⟩,?_⟩
   rintro y1 y2 y5 y6 y7 y8 y9 y10 y11 y12 y13 G' ⟨rfl,rfl,rfl,rfl,rfl,rfl,rfl,rfl,rfl,rfl,t,rfl,ht,hq⟩
   unfold F34.B12
   refine pif_cases (fun hb=>?_) fun hb=>?_
   ·have ht3:t<3:=by have:=of_decide_eq_true hb;omega
    obtain ⟨q,hq1,hq2,hq3⟩:=at_get (es:=es) (w:=(z:Int)) (t:=t) (by omega)
    have nxt:((q:Int)=now∨(q:Int)∈l)→((y12=now∧∀ j,j<t→(atL es (z:Int)).getD j 0=now∨(atL es (z:Int)).getD j 0∈l)∨∃ q:Nat,y12=q∧q<es.length∧p q=true∧q≠now∧on (es.getD q (0,0)) z=true)→((y12=now∧∀ j,j<t+1→(atL es (z:Int)).getD j 0=now∨(atL es (z:Int)).getD j 0∈l)∨∃ q:Nat,y12=q∧q<es.length∧p q=true∧q≠now∧on (es.getD q (0,0)) z=true):=by
     intro hc h
     rcases h with ⟨h1,h2⟩|h
     ·refine .inl ⟨h1,fun j hj=>?_⟩
      by_cases e:j=t
      ·subst e;rw [hq1];exact hc
      ·exact h2 j (by omega)
     ·exact .inr h
    unfold F34.B11
    refine f5.ints.rd (by omega) (by omega) ?_
    rw [Int.toNat_natCast,hq1]
    refine pif_cases (fun hb=>?_) fun hb=>?_
    ·have hqn:(q:Int)≠now:=bne_iff_ne.1 hb
     refine f5.ints.rd (by omega) (by omega) ?_
     rw [Int.toNat_natCast,hq1]
     refine l04Has_ok (hc.le lG5) (by omega) (asB_mk (pif_cases (fun hb=>?_) fun hb=>?_))
     ·have hql:(q:Int)∉l:=by
       rw [Bool.not_eq_true'] at hb
       exact of_decide_eq_false hb
      unfold F34.B10
      refine f5.ints.rd (by omega) (by omega) ?_
      rw [Int.toNat_natCast,hq1]
      unfold F34.B9
      rw [wrap_id (by omega) (by omega)]
      exact ⟨⟨rfl,rfl,rfl,rfl,rfl,rfl,rfl,rfl,rfl,rfl,t+1,by omega,by omega,.inr ⟨q,rfl,hq2,(hpm q).2 hql,by omega,hq3⟩⟩,by show 3-((t:Int)+1).toNat<3-(t:Int).toNat;omega⟩
     ·have hql:(q:Int)∈l:=by
       rw [Bool.not_eq_false'] at hb
       exact of_decide_eq_true hb
      unfold F34.B9
      rw [wrap_id (by omega) (by omega)]
      exact ⟨⟨rfl,rfl,rfl,rfl,rfl,rfl,rfl,rfl,rfl,rfl,t+1,by omega,by omega,nxt (.inr hql) hq⟩,by show 3-((t:Int)+1).toNat<3-(t:Int).toNat;omega⟩
    ·have hqn:(q:Int)=now:=bne_eq_false_iff_eq.1 hb
     unfold F34.B9
     rw [wrap_id (by omega) (by omega)]
     exact ⟨⟨rfl,rfl,rfl,rfl,rfl,rfl,rfl,rfl,rfl,rfl,t+1,by omega,by omega,nxt (.inl hqn) hq⟩,by show 3-((t:Int)+1).toNat<3-(t:Int).toNat;omega⟩
   ·have ht3:t=3:=by have:=of_decide_eq_false hb;omega
    subst ht3
    obtain ⟨q,rfl,hq2,hq3,hq4,hq5⟩:∃ q:Nat,y12=q∧q<es.length∧p q=true∧q≠now∧on (es.getD q (0,0)) z=true:=by
     rcases hq with ⟨_,h2⟩|hq
     ·obtain ⟨q,g1,g2,g3,g4⟩:=hex
      have hm:(q:Int)∈atL es (z:Int):=mem_atL.2 ⟨q,rfl,g1,g4⟩
      obtain ⟨j,hj,hje⟩:=List.getElem_of_mem hm
      have:=h2 j (by omega)
      rw [getD_of hj,hje] at this
      rcases this with h|h
      ·exact absurd h (by omega)
      ·exact absurd h ((hpm q).1 g2)
     ·exact hq
    obtain ⟨e1,e2,e3,e4,e5⟩:=hg.ed.ends es[q] (List.getElem_mem hq2)
    rw [← getD_of (d:=(0,0)) hq2] at e1 e2 e3 e4 e5
    obtain ⟨y,hy⟩:∃ y:Nat,(es.getD q (0,0)).1+(es.getD q (0,0)).2-(z:Int)=y:=⟨((es.getD q (0,0)).1+(es.getD q (0,0)).2-(z:Int)).toNat,by rcases on_oth hq5 with e|e <;> omega⟩
    have hyn:(y:Int)<n:=by rcases on_oth hq5 with e|e <;> omega
    have hyo:on (es.getD q (0,0)) y=true:=by
     unfold on
     simp only [Bool.or_eq_true,beq_iff_eq]
     rcases on_oth hq5 with e|e <;> omega
    have hzy:z≠y:=by
     have:=hq5
     unfold on at this
     simp only [Bool.or_eq_true,beq_iff_eq] at this
     omega
    unfold F34.B7 F34.B6
    refine ldI_own ((o1.le hG4).le l5) rfl (ld1_own ((o1.le hG4).le l5) rfl (l01Other_ok (e:=(q:Int)) (h.le lG5) (by omega) (by omega) (by rw [Int.toNat_natCast];omega) (by rw [Int.toNat_natCast];omega) (by omega) fun G6 l6=>asI_mk ?_))
    rw [Int.toNat_natCast,hy]
    have l56:=AHeap.le_trans l5 l6
    have hl56:=l56.1
    have f6:=f4.le l56
    refine ⟨⟨rfl,rfl,rfl,rfl,rfl,AHeap.le_trans hG4 l56,by have:=b3.len;omega,hR4.le l56,q,z,y,C++[(now:Int)],S.set now true,rfl,rfl,by simpa using f6,o4.le l56,by simpa using hSl,fun j hj=>?_,hW.step hnC (fun h=>hnot (.inl h)) hq2 hq3 hq4 hq5 hyo hzy hyn⟩,?_⟩
    ·rw [setB (by omega)]
     simp only [insB,Bool.or_eq_true,decide_eq_true_eq,hSe j hj,List.mem_append,List.mem_singleton]
     constructor
     ·rintro ((h|h)|h)
      ·exact .inl h
      ·exact .inr (.inl h)
      ·exact .inr (.inr (by omega))
     ·rintro (h|h|h)
      ·exact .inl (.inl h)
      ·exact .inl (.inr h)
      ·exact .inr (by omega)
    ·show es.length-lenV x8'<es.length-lenV x8
     rw [Sl_lenV f6.sl,Sl_lenV hF.sl]
     simp;omega
  ·have hmet:S.getD now false=true:=by simpa using hb
   have hst:(now:Int)∈C∨ETo es p i now:=((hSe now hnl).1 hmet).symm
   have hall:=hW.stop (fun x hx _=>hdeg x hx) hend hnE (fun a b _ ha hab=>ha.closed hab) hst
   obtain ⟨hclen,hciff⟩:=hW.comp hall
   unfold F34.B4
   refine hR.push hGl2 (fun b hb=>by omega) hF (by omega) fun v' G3 ot nb hlen3 hR3=>?_
   unfold F34.B3
   rw [wrap_id (by omega) (by omega)]
   have hbo:∀ b,bk x6=some b→pm<b:=fun b hb=>by
    obtain ⟨vs,_,_,q3,_⟩:=hR
    exact (q3 b hb).1
   refine ⟨⟨rfl,rfl,rfl,⟨by have:=hG2.1;omega,fun b o ho'=>ot b o (fun hv=>by have:=hbo b hv;have:=lt_of_get ho';omega) (hG2.2 _ _ ho')⟩,i+1,by omega,by omega,S,cs++[C],ot pm _ (fun hv=>by have:=hbo pm hv;omega) oS,hSl,fun j hj=>?_,hR3,by simp;omega,?_⟩,by show es.length-((i:Int)+1).toNat<es.length-(i:Int).toNat;omega⟩
   ·rw [hSe j hj,ETo.succ,hciff j]
    refine or_congr Iff.rfl ⟨fun hr=>⟨hpi,(eRch_in hr ⟨hil,hpi⟩).2,hr⟩,fun hr=>hr.2.2⟩
   ·rw [List.map_append,hlen,lensTo,if_pos ⟨hpi,hlead⟩,← hclen];rfl
 ·have hil:i=es.length:=by have:=of_decide_eq_false hb;omega
  subst hil
  unfold F34.B1
  exact k _ _ cs lG (hR.mono (fun b hb=>by omega) (Nat.le_refl _)) hlen
end Go.Proofs
namespace Go.Proofs
open Go.Abs

variable {H G:AHeap} {v u f:Value} {l m c D:List Int} {es fs:List (Int × Int)} {K:Value→AHeap→Prop} {A A':Nat→Prop} {B:Nat} {ls ms cs:List (List Int)}

def oddSum (l:List Nat):Nat:=(l.map (· % 2)).sum
theorem oddSum_snoc (l:List Nat) (x:Nat):oddSum (l++[x])=oddSum l+x%2:=by unfold oddSum;simp
theorem oddSum_le (l:List Nat):oddSum l≤l.length:=by
 unfold oddSum
 induction l with
 | nil=>simp
 | cons a l ih=>simp;omega
theorem tmod2 (x:Nat):Int.tmod ((x:Nat):Int) 2=((x%2:Nat):Int):=by
 rw [Int.tmod_eq_emod_of_nonneg (by omega)];omega
theorem l04Odd_ok (h:RowsF A B H v cs) (hl:cs.length≤1000000) (k:K (.int .i64 (oddSum (cs.map List.length):Nat)) H):AC Tryz.prog T0 35 [v] H K:=by
 apply F35.ac
 unfold F35.B8 F35.B7 F35.B6 F35.L2
 refine ⟨fun x0 x3 x4 G=>v=x0∧H=G∧∃ i:Nat,x4=i∧i≤cs.length∧x3=(oddSum ((cs.take i).map List.length):Nat),fun _ _ x4 _=>cs.length-x4.toNat,⟨rfl,rfl,0,rfl,by omega,by simp [oddSum]⟩,?_⟩
 rintro x0 x3 x4 G ⟨rfl,rfl,i,rfl,hi,rfl⟩
 have ho:=oddSum_le ((cs.take i).map List.length)
 rw [List.length_map,List.length_take] at ho
 unfold F35.B5
 refine h.len (pif_cases (fun hb=>?_) fun hb=>?_)
 ·have hil:i<cs.length:=by have:=of_decide_eq_true hb;omega
  unfold F35.B4
  refine h.row hil fun w fw=>fw.ints.len ?_
  unfold F35.B3
  rw [tmod2,wrap_id (by omega) (by omega),wrap_id (by omega) (by omega)]
  refine ⟨⟨rfl,rfl,i+1,by omega,by omega,?_⟩,by show cs.length-((i:Int)+1).toNat<cs.length-(i:Int).toNat;omega⟩
  rw [List.take_succ_eq_append_getElem hil,List.map_append,List.map_singleton,oddSum_snoc,getD_of hil];omega
 ·have hil:i=cs.length:=by have:=of_decide_eq_false hb;omega
  subst hil
  unfold F35.B1
  rw [List.take_length];exact k
section
variable {p p':Nat→Bool}
theorem eAdj_congr (h:∀ j,j<es.length→p j=p' j):eAdj es p=eAdj es p':=by
 funext i j
 unfold eAdj
 rw [eq_iff_iff]
 constructor
 ·rintro ⟨h1,h2,h3⟩;exact ⟨h1,by rw [← h j h1];exact h2,h3⟩
 ·rintro ⟨h1,h2,h3⟩;exact ⟨h1,by rw [h j h1];exact h2,h3⟩
theorem lensTo_congr (h:∀ j,j<es.length→p j=p' j):∀ k,k≤es.length→lensTo es p k=lensTo es p' k
 | 0,_=>rfl
 | k+1,hk=>by
  have hc:compL es p k=compL es p' k:=by unfold compL;rw [eAdj_congr h]
  have hl:cLeadB es p k=cLeadB es p' k:=by
   rw [Bool.eq_iff_iff,cLeadB_iff,cLeadB_iff]
   unfold cLead
   rw [eAdj_congr h]
   constructor
   ·intro g j h1 h2;exact g j h1 (by rw [h j (by omega)];exact h2)
   ·intro g j h1 h2;exact g j h1 (by rw [← h j (by omega)];exact h2)
  rw [lensTo,lensTo,lensTo_congr h k (by omega),hc,hl,h k (by omega)]
theorem cycN_lens (hm:es.length≤64):∀ k,(cycN es p (filtB p k)).map (fun z=>popc z 64)=lensTo es p k
 | 0=>rfl
 | k+1=>by
  have ih:=cycN_lens hm k
  unfold cycN at ih ⊢
  rw [filtB_succ,List.filter_append,List.map_append,List.map_append,ih,lensTo]
  congr 1
  cases h1:p k with
  | false=>simp
  | true=>
   cases h2:cLeadB es p k with
   | false=>simp [h2]
   | true=>
    have:popc (compN es p k) 64=(compL es p k).length:=by rw [← compN_list hm];rfl
    simp [h2,this]
end
noncomputable def oddN (es:List (Int × Int)) (l:List Int):Nat:=oddSum (lensTo es (leftP l) es.length)
theorem lensTo_length (es:List (Int × Int)) (p:Nat→Bool):∀ k,(lensTo es p k).length≤k
 | 0=>Nat.le_refl _
 | k+1=>by
  have:=lensTo_length es p k
  rw [lensTo,List.length_append]
  split <;> simp <;> omega
theorem oddN_le (es:List (Int × Int)) (l:List Int):oddN es l≤es.length:=Nat.le_trans (oddSum_le _) (lensTo_length _ _ _)
theorem left_ok {n:Int} (h:Edges H v es) (hg:IsG n es) (hS:IsS l es.length)
 (k:∀ v' G Z,H.le G→Fresh H.length G v' 45 1 (LU Z)→Z.map (fun z=>popc z 64)=lensTo es (leftP l) es.length→(∀ z∈Z,z<2^64)→K v' G):AC Tryz.prog T0 31 [.agg ⟨[.int .i64 n,v]⟩,.int .u64 (setN l:Nat)] H K:=by
 have h30:es.length≤30:=by have:=hg.ed.len;have:=hg.ed.hi;omega
 have hs:setN l<2^64:=setN_lt fun x hx=>by have:=hS.range x hx;omega
 have hp:(2:Nat)^es.length<2^61:=Nat.pow_lt_pow_right (by decide) (by omega)
 have hp64:(2:Nat)^61<2^64:=by decide
 have hmp:=Nat.two_pow_pos es.length
 apply F31.ac
 unfold F31.B2
 refine newK_f (all_iv (edges_one' h)) fun H1 l1 _ o1=>?_
 unfold F31.B1
 refine ldI_own o1 rfl (ld1_own o1 rfl (ldI_own o1 rfl (ld1_own o1 rfl (every_ok (h.le l1) (by omega) fun H2 l2=>asI_mk ⟨l2,?_⟩))))
 rw [bits_andnot (by omega) hs]
 obtain ⟨X,hX⟩:∃ X,X=(2^es.length-1)&&&(2^64-(setN l+1)):=⟨_,rfl⟩
 rw [← hX]
 have hXl:X<2^64:=by rw [hX];exact Nat.lt_of_le_of_lt Nat.and_le_left (by omega)
 have hXb:∀ j,X.testBit j=(decide (j<es.length)&&leftP l j):=fun j=>by rw [hX,andnot_bit (by omega) hs,Nat.testBit_two_pow_sub_one];rfl
 have l12:=AHeap.le_trans l1 l2
 refine cycles_ok (h.le l12) hg hXl (fun j hj=>by rw [hXb,Bool.and_eq_true] at hj;exact of_decide_eq_true hj.1) fun v' G lG fG=>?_
 refine k v' G _ (AHeap.le_trans l12 lG) (fG.less l12.1) ?_ fun z hz=>?_
 ·rw [cycN_lens (by omega)]
  exact lensTo_congr (fun j hj=>by show X.testBit j=_;rw [hXb];simp [hj]) _ (Nat.le_refl _)
 ·unfold cycN at hz
  obtain ⟨y,_,rfl⟩:=List.mem_map.1 hz
  exact compN_lt (by omega)
theorem odd_ok {n:Int} (h:Edges H v es) (hg:IsG n es) (hS:IsS l es.length) (k:∀ G,H.le G→K (.int .i64 (oddN es l:Nat)) G):AC Tryz.prog T0 30 [.agg ⟨[.int .i64 n,v]⟩,.int .u64 (setN l:Nat)] H K:=by
 apply F30.ac
 unfold F30.B9
 refine newK_f (all_iv (edges_one' h)) fun H1 l1 _ o1=>?_
 unfold F30.B8 F30.B7
 refine ldI_own o1 rfl (ld1_own o1 rfl (left_ok (h.le l1) hg hS fun w H2 Z l2 f2 hZ hz64=>?_))
 have h30:es.length≤30:=by have:=hg.ed.len;have:=hg.ed.hi;omega
 have hZl:Z.length≤30:=by
  have:=congrArg List.length hZ
  rw [List.length_map] at this
  have:=lensTo_length es (leftP l) es.length
  omega
 have l12:=AHeap.le_trans l1 l2
 refine f2.sl.len (by decide) (n:=Z.length) (by simp) ?_
 unfold F30.L2
 refine ⟨fun x5 x10 x11 x12 G=>w=x10∧(Z.length:Int)=x11∧H2=G∧∃ i:Nat,x12=i∧i≤Z.length∧x5=(oddSum ((Z.take i).map fun z=>popc z 64):Nat),fun _ _ _ x12 _=>Z.length-x12.toNat,⟨rfl,rfl,rfl,0,rfl,by omega,by simp [oddSum]⟩,?_⟩
 rintro x5 x10 x11 x12 G ⟨rfl,rfl,rfl,i,rfl,hi,rfl⟩
 have ho:=oddSum_le ((Z.take i).map fun z=>popc z 64)
 rw [List.length_map,List.length_take] at ho
 unfold F30.B6
 refine pif_cases (fun hb=>?_) fun hb=>?_
 ·have hil:i<Z.length:=by have:=of_decide_eq_true hb;omega
  unfold F30.B5
  refine Sl_rdI f2.sl (by omega) (by simp;omega) (by rw [Int.toNat_natCast];exact LU_get hil) ?_
  rw [getD_of hil]
  unfold F30.B4
  refine size_ok (hz64 _ (List.getElem_mem hil)) (asI_mk ?_)
  unfold F30.B3
  rw [tmod2,wrap_id (by omega) (by omega),wrap_id (by omega) (by omega)]
  refine ⟨⟨rfl,rfl,rfl,i+1,by omega,by omega,?_⟩,by show Z.length-((i:Int)+1).toNat<Z.length-(i:Int).toNat;omega⟩
  rw [List.take_succ_eq_append_getElem hil,List.map_append,List.map_singleton,oddSum_snoc];omega
 ·have hil:i=Z.length:=by have:=of_decide_eq_false hb;omega
  subst hil
  unfold F30.B1
  have k:=k _ l12
  unfold oddN at k
  rw [← hZ] at k
  rw [List.take_length];exact k
noncomputable def bestS (es:List (Int × Int)) (b:List Int × Int) (l:List Int):List Int × Int:=if b.2<0∨(oddN es l:Int)<b.2 then (l,(oddN es l:Int)) else b
noncomputable def bestF (es:List (Int × Int)) (L:List (List Int)):List Int × Int:=L.foldl (bestS es) ([],-1)
theorem bestF_snoc (L:List (List Int)) (l:List Int):bestF es (L++[l])=bestS es (bestF es L) l:=by unfold bestF;rw [List.foldl_append];rfl
theorem bestF_rng (L:List (List Int)):∀ b:List Int × Int,-1≤b.2→b.2≤es.length→-1≤(L.foldl (bestS es) b).2∧(L.foldl (bestS es) b).2≤es.length:=by
 induction L with
 | nil=>exact fun b h1 h2=>⟨h1,h2⟩
 | cons l L ih=>
  intro b h1 h2
  rw [List.foldl_cons]
  have:=oddN_le es l
  refine ih _ ?_ ?_
  ·unfold bestS
   split
   ·show (-1:Int)≤(oddN es l:Int);omega
   ·exact h1
  ·unfold bestS
   split
   ·show (oddN es l:Int)≤es.length;omega
   ·exact h2
theorem bestF_rng0 (L:List (List Int)):-1≤(bestF es L).2∧(bestF es L).2≤es.length:=bestF_rng L _ (by decide) (by show (-1:Int)≤es.length;omega)
theorem bestF_mem (L:List (List Int)):∀ b:List Int × Int,(L.foldl (bestS es) b).1=b.1∨(L.foldl (bestS es) b).1∈L:=by
 induction L with
 | nil=>exact fun b=>.inl rfl
 | cons l L ih=>
  intro b
  rw [List.foldl_cons]
  rcases ih (bestS es b l) with h|h
  ·unfold bestS at h
   split at h
   ·right;rw [List.mem_cons];left;unfold bestS;rw [if_pos (by assumption)];exact h
   ·left;unfold bestS;rw [if_neg (by assumption)];exact h
  ·exact .inr (by simp [h])
theorem bestF_none {L:List (List Int)}:(bestF es L).2=-1↔L=[]:=by
 have nn:∀ (L:List (List Int)) (b:List Int × Int),0≤b.2→0≤(L.foldl (bestS es) b).2:=by
  intro L
  induction L with
  | nil=>exact fun b h=>h
  | cons l L ih=>
   intro b h
   rw [List.foldl_cons]
   refine ih _ ?_
   unfold bestS
   split
   ·simp
   ·exact h
 constructor
 ·intro h
  cases L with
  | nil=>rfl
  | cons l L=>
   unfold bestF at h
   rw [List.foldl_cons] at h
   have:=nn L (bestS es ([],-1) l) (by unfold bestS;rw [if_pos (.inl (by decide))];simp)
   omega
 ·rintro rfl;rfl
noncomputable def isZero (es:List (Int × Int)) (d:List (List Int)):Bool:=@decide ((bestF es d).2=0) (Classical.propDecidable _)
theorem best_zero (L:List (List Int)):∀ b:List Int × Int,b.2=0→L.foldl (bestS es) b=b:=by
 induction L with
 | nil=>exact fun b _=>rfl
 | cons l L ih=>
  intro b h
  rw [List.foldl_cons]
  have:bestS es b l=b:=by unfold bestS;rw [if_neg (by omega)]
  rw [this];exact ih b h
theorem best_up:∀ (L d:List (List Int)),bestF es (d++upToD (isZero es) d L)=bestF es (d++L)
 | [],d=>rfl
 | x::L,d=>by
  rw [upToD]
  by_cases h:isZero es (d++[x])=true
  ·rw [if_pos h]
   have h0:(bestF es (d++[x])).2=0:=by unfold isZero at h;simpa using h
   have:bestF es (d++x::L)=bestF es (d++[x]):=by
    rw [show d++x::L=(d++[x])++L by simp]
    unfold bestF at h0 ⊢
    rw [List.foldl_append]
    exact best_zero L _ h0
   rw [this]
  ·rw [if_neg h]
   have:=best_up L (d++[x])
   rw [List.append_assoc,List.append_assoc] at this
   exact this
theorem mats_row2 {n:Int} (hg:IsG n es):∀ l∈mats n es,IsS l es.length∧l.length≤30∧OneAt n es l:=fun l hl=>⟨(mats_row hg l hl).1,(mats_row hg l hl).2,mats_one hg hl⟩
theorem best_isS {n:Int} (hg:IsG n es) {d:List (List Int)} (hd:∀ l∈d,l∈mats n es):IsS (bestF es d).1 es.length:=by
 rcases bestF_mem (es:=es) d ([],-1) with h|h
 ·unfold bestF;rw [h];exact isS_nil _
 ·exact (mats_row hg _ (hd _ h)).1
theorem RowsF.rowA (h:RowsF A B H v ls) {i:Nat} (hi:i<ls.length) {K:Value→Prop} (k:∀ w,Fresh 0 H w 2 1 (LI (ls.getD i []))→(∀ b,bk w=some b→A b)→K w):idxK v i 1 (fun b o=>ld1 H b o K):=by
 obtain ⟨vs,h1,h2,h3,h4⟩:=h
 obtain ⟨w,g1,g2,g3⟩:=h4 i hi
 exact Sl_rd h1.sl (by omega) (by omega) (by rw [Int.toNat_natCast];exact g1) (k w g2 fun b hb=>(g3 b hb).1)
theorem fresh_more {m0 m1:Nat} {t:TypeId} {z:Nat} {xs:List Value} (h:Fresh m0 H v t z xs) (hb:∀ b,bk v=some b→m1≤b):Fresh m1 H v t z xs:=by
 rcases h with h|⟨b,n,h1,rfl,h3,h4⟩
 ·exact .inl h
 ·exact .inr ⟨b,n,hb b rfl,rfl,h3,h4⟩
theorem l04Best_ok {n:Int} (h:Edges H v es) (hg:IsG n es)
 (k:∀ w G,H.le G→Fresh H.length G w 2 1 (LI (bestF es (mats n es)).1)→K (.tuple ⟨[w,.int .i64 (bestF es (mats n es)).2,.bool (decide (mats n es≠[]))]⟩) G):AC Tryz.prog T0 24 [.agg ⟨[.int .i64 n,v]⟩] H K:=by
 have h30:es.length≤30:=by have:=hg.ed.len;have:=hg.ed.hi;omega
 have hml:=mats_length hg
 have hrow:=mats_row2 hg
 apply F24.ac
 unfold F24.B11
 refine newK_f (all_iv (edges_one' h)) fun H1 l1 _ o1=>?_
 unfold F24.B10
 refine ldI_own o1 rfl (ld1_own o1 rfl (l04All_ok hg (h.le l1) fun q H2 l2 hR=>newK_f rfl fun H3 l3 n3 o3=>?_))
 have l12:=AHeap.le_trans l1 l2
 have b1:=l1.1
 have b2:=l2.1
 unfold F24.B9 F24.L2
 refine ⟨fun x1 x5 x6 x7 x8 G=>H.length=x1∧q=x5∧H2.le G∧∃ i:Nat,x8=i∧i≤(mats n es).length∧x7=(bestF es ((mats n es).take i)).2∧Fresh H.length G x6 2 1 (LI (bestF es ((mats n es).take i)).1),fun _ _ _ _ x8 _=>(mats n es).length-x8.toNat,
  ⟨rfl,rfl,l3,0,rfl,by omega,by simp [bestF],by simpa [bestF] using (show Fresh H.length H3 _ _ _ _ from .inr ⟨_,0,by omega,rfl,o3,rfl⟩)⟩,?_⟩
 rintro x1 x5 x6 x7 x8 G ⟨rfl,rfl,hG,i,rfl,hi,rfl,hF⟩
 have lG:=AHeap.le_trans l12 hG
 have oG:=(o1.le l2).le hG
 have hRG:=hR.le hG
 unfold F24.B8
 refine hRG.len (pif_cases (fun hb=>?_) fun hb=>?_)
 ·have hil:i<(mats n es).length:=by have:=of_decide_eq_true hb;omega
  obtain ⟨q1,q2,q3⟩:=hrow _ (List.getElem_mem hil)
  rw [← getD_of (d:=[]) hil] at q1 q2 q3
  have hsnoc:bestF es ((mats n es).take (i+1))=bestS es (bestF es ((mats n es).take i)) ((mats n es).getD i []):=by
   rw [List.take_succ_eq_append_getElem hil,bestF_snoc,getD_of hil]
  unfold F24.B7
  refine ldI_own oG rfl (ld1_own oG rfl (hRG.row hil fun r hr=>l04Cycles_ok (h.le lG) hg hr.ints q1 q3 fun w G2 cs l4 hR2 hlen=>?_))
  have hcs:cs.length≤30:=by
   have:=congrArg List.length hlen
   rw [List.length_map] at this
   have:=lensTo_length es (leftP ((mats n es).getD i [])) es.length
   omega
  refine l04Odd_ok hR2 (by omega) (asI_mk ?_)
  rw [hlen,show oddSum (lensTo es (leftP ((mats n es).getD i [])) es.length)=oddN es ((mats n es).getD i []) from rfl]
  have hG2:=AHeap.le_trans hG l4
  have upd:((bestF es ((mats n es).take i)).2<0∨(oddN es ((mats n es).getD i []):Int)<(bestF es ((mats n es).take i)).2)→∀ N2:Nat→Value→Value→Int→Int→AHeap→Prop,(∀ w,Fresh H.length G2 w 2 1 (LI (bestF es ((mats n es).take (i+1))).1)→N2 H.length q w (bestF es ((mats n es).take (i+1))).2 ((i:Int)+1) G2)→F24.B5 K N2 H.length q (i:Nat) (oddN es ((mats n es).getD i []):Nat) G2:=by
   intro hc N2 hN
   have e:bestF es ((mats n es).take (i+1))=((mats n es).getD i [],(oddN es ((mats n es).getD i []):Int)):=by rw [hsnoc];unfold bestS;rw [if_pos hc]
   rw [e] at hN
   unfold F24.B5
   refine (hR.le hG2).rowA hil fun w fw hb=>?_
   unfold F24.B4 F24.B3
   rw [wrap_id (by omega) (by omega)]
   exact hN w (fresh_more fw fun b hb'=>by have:=hb b hb';omega)
  have fin:∀ w,Fresh H.length G2 w 2 1 (LI (bestF es ((mats n es).take (i+1))).1)→(H.length=H.length∧q=q∧H2.le G2∧∃ i':Nat,(i:Int)+1=i'∧i'≤(mats n es).length∧(bestF es ((mats n es).take (i+1))).2=(bestF es ((mats n es).take i')).2∧Fresh H.length G2 w 2 1 (LI (bestF es ((mats n es).take i')).1))∧(mats n es).length-((i:Int)+1).toNat<(mats n es).length-(i:Int).toNat:=
   fun w hw=>⟨⟨rfl,rfl,hG2,i+1,by omega,by omega,rfl,hw⟩,by omega⟩
  unfold F24.B6
  refine pif_cases (fun hb=>?_) fun hb=>pif_cases (fun hb2=>?_) fun hb2=>?_
  ·exact upd (.inl (of_decide_eq_true hb)) _ fin
  ·exact upd (.inr (of_decide_eq_true hb2)) _ fin
  ·have hc:¬ ((bestF es ((mats n es).take i)).2<0∨(oddN es ((mats n es).getD i []):Int)<(bestF es ((mats n es).take i)).2):=by
    have h1:=of_decide_eq_false hb
    have h2:=of_decide_eq_false hb2
    omega
   have e:bestF es ((mats n es).take (i+1))=bestF es ((mats n es).take i):=by rw [hsnoc];unfold bestS;rw [if_neg hc]
   have fin:=fin x6 (by rw [e];exact hF.le l4)
   unfold F24.B3
   rw [wrap_id (by omega) (by omega),← e]
   exact fin
 ·have hil:i=(mats n es).length:=by have:=of_decide_eq_false hb;omega
  subst hil
  rw [List.take_length] at hF ⊢
  unfold F24.B1
  refine hRG.len ?_
  have e:decide ((((mats n es).length:Int):Int)>0)=decide (mats n es≠[]):=by
   congr 1
   rw [eq_iff_iff]
   cases hl:mats n es <;> simp
  rw [e]
  exact k _ _ lG hF
theorem best_ok {n:Int} (hT:Tab H) (h:Edges H v es) (hg:IsG n es)
 (k:∀ G,H.le G→K (.tuple ⟨[.int .u64 (setN (bestF es (mats n es)).1:Nat),.int .i64 (bestF es (mats n es)).2,.bool (decide (mats n es≠[]))]⟩) G):AC Tryz.prog T0 22 [.agg ⟨[.int .i64 n,v]⟩] H K:=by
 have h30:es.length≤30:=by have:=hg.ed.len;have:=hg.ed.hi;omega
 have hrow:=mats_row2 hg
 apply F22.ac
 unfold F22.B5
 refine newK_f (all_iv (edges_one' h)) fun H1 l1 n1 o1=>?_
 unfold F22.B4
 refine newK_f rfl fun H2 l2 n2 o2=>?_
 unfold F22.B3
 refine newK_f rfl fun H3 l3 n3 o3=>stK_f o3 (by simp) (by simp [Value.oneCell']) rfl fun H4 b4 o4=>?_
 obtain ⟨a,ha⟩:∃ a,a=H1.length:=⟨_,rfl⟩
 obtain ⟨b,hb⟩:∃ b,b=H2.length:=⟨_,rfl⟩
 rw [← ha] at o2;rw [← hb] at o4;rw [← ha,← hb]
 have hab:a+1=b:=by omega
 have o24:Own H4 a 45 [.int .u64 0]:=b4.own (o2.le l3) (by omega)
 have o4:Own H4 b 2 [.int .i64 (-1)]:=by simpa using o4
 have l24:H2.le H4:=b4.le l3 (Nat.le_refl _)
 have l14:=AHeap.le_trans l2 l24
 have l04:=AHeap.le_trans l1 l14
 have o14:=o1.le l14
 have hb1:=l1.1
 have hl4:H4.length=H2.length+1:=by rw [b4.len];omega
 unfold F22.B2
 refine ldI_own o14 rfl (ld1_own o14 rfl (matchings_ok hg (H0:=H) (Pv0:=fun x=>x=a∨x=b) (q:=isZero es)
  (J:=fun done Pv G=>(∀ x,Pv x↔(x=a∨x=b))∧b<G.length∧(∀ l∈done,l∈mats n es)∧Own G a 45 [.int .u64 (setN (bestF es done).1:Nat)]∧Own G b 2 [.int .i64 (bestF es done).2])
  h l04 (fun x hx=>by omega) hT rfl ⟨fun x=>Iff.rfl,by omega,(fun l hl=>by cases hl),o24,o4⟩ ?_ ?_ ?_ ?_))
 ·rintro done Pv G G2 ⟨h1,h2,h3,h4,h5⟩ hle
  exact ⟨h1,by have:=hle.1;omega,h3,h4.le hle,h5.le hle⟩
 ·rintro done Pv G x ⟨h1,h2,h3,h4,h5⟩ hx
  have:=(h1 x).1 hx;omega
 ·rintro done Pv l G ⟨h1,h2,h3,h4,h5⟩ hF hlm _ K hK
  obtain ⟨q1,q2,q3⟩:=hrow l hlm
  obtain ⟨h0G,_⟩:=hF.base l04 (fun x hx=>by omega)
  have oG:Own G H.length _ [.int .i64 n,v]:=hF.old _ _ (by omega) o14
  have hmem:∀ l'∈done++[l],l'∈mats n es:=fun l' hl'=>by
   rcases List.mem_append.1 hl' with h|h
   ·exact h3 l' h
   ·rw [List.mem_singleton] at h;rw [h];exact hlm
  refine callV_mk ?_
  apply F52.ac
  unfold F52.B5 F52.B4
  refine asP_mk (ldI_own oG rfl (ld1_own oG rfl (odd_ok (h.le h0G) hg q1 fun G2 lG2=>asI_mk ?_)))
  have h4':=h4.le lG2
  have h5':=h5.le lG2
  have hr:=bestF_rng0 (es:=es) done
  have hsn:=bestF_snoc (es:=es) done l
  have last:∀ G3,(∀ x o,¬ Pv x→G2[x]?=some (some o)→G3[x]?=some (some o))→G3.length=G2.length→Own G3 a 45 [.int .u64 (setN (bestF es (done++[l])).1:Nat)]→Own G3 b 2 [.int .i64 (bestF es (done++[l])).2]→F52.B1 K (.pointer (some ⟨b,0,none⟩)) G3:=by
   intro G3 hold hlen3 oa ob
   unfold F52.B1
   refine asP_mk (ldI_own ob rfl ?_)
   have e:((bestF es (done++[l])).2==0)=isZero es (done++[l]):=by
    rw [Bool.eq_iff_iff,beq_iff_eq];unfold isZero;simp
   rw [e]
   exact hK G3 Pv ⟨h1,by rw [hlen3];have:=lG2.1;omega,hmem,oa,ob⟩ ⟨by rw [hlen3];exact lG2.1,fun x hx=>.inl hx,fun x o hx ho=>hold x o hx (lG2.2 _ _ ho)⟩
  have upd:((bestF es done).2<0∨(oddN es l:Int)<(bestF es done).2)→F52.B2 K (setN l:Nat) (.pointer (some ⟨b,0,none⟩)) (.pointer (some ⟨a,0,none⟩)) (oddN es l:Nat) G2:=by
   intro hc
   have e:bestF es (done++[l])=(l,(oddN es l:Int)):=by rw [hsn];unfold bestS;rw [if_pos hc]
   unfold F52.B2
   refine asP_mk (stK_f h4' (by simp) (by simp [Value.oneCell']) rfl fun G3 b3 o3'=>asP_mk (stK_f (b3.own h5' (by omega)) (by simp) (by simp [Value.oneCell']) rfl fun G4 b4' o4'=>?_))
   refine last G4 (fun x o hx ho=>?_) (by rw [b4'.len,b3.len]) ?_ ?_
   ·have hn:¬ (x=a∨x=b):=fun h=>hx ((h1 x).2 h)
    rw [b4'.same x (by omega),b3.same x (by omega)];exact ho
   ·rw [e];exact b4'.own (by simpa using o3') (by omega)
   ·rw [e];simpa using o4'
  unfold F52.B3
  refine asP_mk (ldI_own h5' rfl (pif_cases (fun hb=>?_) fun hb=>asP_mk (ldI_own h5' rfl (pif_cases (fun hb2=>?_) fun hb2=>?_))))
  ·exact upd (.inl (by have:=beq_iff_eq.1 hb;omega))
  ·exact upd (.inr (of_decide_eq_true hb2))
  ·have h1':(bestF es done).2≠-1:=fun e=>by rw [e] at hb;simp at hb
   have h2':=of_decide_eq_false hb2
   have e:bestF es (done++[l])=bestF es done:=by rw [hsn];unfold bestS;rw [if_neg (by omega)]
   refine last G2 (fun x o _ ho=>ho) rfl ?_ ?_
   ·rw [e];exact h4'
   ·rw [e];exact h5'
 ·rintro G Pv ⟨h1,h2,h3,h4,h5⟩ hF
  have e:bestF es (upToD (isZero es) [] (mats n es))=bestF es (mats n es):=by
   have:=best_up (es:=es) (mats n es) []
   simpa using this
  rw [e] at h4 h5
  have hbG:=(hF.base l04 (fun x hx=>by omega)).1
  refine asB_mk ?_
  unfold F22.B1
  refine ldI_own h4 rfl (ldI_own h5 rfl (ldI_own h5 rfl ?_))
  have e2:((bestF es (mats n es)).2 != -1)=decide (mats n es≠[]):=by
   rw [Bool.eq_iff_iff,bne_iff_ne,decide_eq_true_iff]
   exact not_congr bestF_none
  rw [e2]
  exact k G hbG
noncomputable def bmCode (n:Int) (es:List (Int × Int)):Int:=if IsG n es then (if mats n es=[] then 4 else 0) else 1
noncomputable def bmList (n:Int) (es:List (Int × Int)):List Int:=if bmCode n es=0 then (bestF es (mats n es)).1 else []
noncomputable def odVal (n:Int) (es:List (Int × Int)):Int:=if bmCode n es=0 then (bestF es (mats n es)).2 else 0
end Go.Proofs
namespace Go.Proofs
open Go.Abs

noncomputable def nxE (es:List (Int × Int)) (p:Nat→Bool) (now v:Nat):Nat:=@dite Nat (∃ q,q<es.length∧p q=true∧q≠now∧on (es.getD q (0,0)) v=true) (Classical.propDecidable _) (fun h=>Classical.choose h) fun _=>0
noncomputable def wk (es:List (Int × Int)) (p:Nat→Bool) (e:Nat):Nat→Nat × Nat
 | 0=>(e,(es.getD e (0,0)).2.toNat)
 | t+1=>(nxE es p (wk es p e t).1 (wk es p e t).2,othN es (nxE es p (wk es p e t).1 (wk es p e t).2:Nat) (wk es p e t).2)
noncomputable def wkL (es:List (Int × Int)) (p:Nat→Bool) (e T:Nat):List Int:=(List.range T).map fun t=>((wk es p e t).1:Int)
theorem wkL_succ (es:List (Int × Int)) (p:Nat→Bool) (e T:Nat):wkL es p e (T+1)=wkL es p e T++[((wk es p e T).1:Int)]:=by
 unfold wkL;rw [List.range_succ,List.map_append];rfl
theorem wkL_length (es:List (Int × Int)) (p:Nat→Bool) (e T:Nat):(wkL es p e T).length=T:=by simp [wkL]
section
variable {es:List (Int × Int)} {p:Nat→Bool} {n:Int} {e now v q:Nat}
theorem nx_eq (h2:degB es p v=2) (hn1:now<es.length) (hn2:p now=true) (hn3:on (es.getD now (0,0)) v=true) (h1:q<es.length) (h3:p q=true) (h4:q≠now) (h5:on (es.getD q (0,0)) v=true):nxE es p now v=q:=by
 have hex:∃ q,q<es.length∧p q=true∧q≠now∧on (es.getD q (0,0)) v=true:=⟨q,h1,h3,h4,h5⟩
 have e:nxE es p now v=Classical.choose hex:=by unfold nxE;rw [dif_pos hex]
 obtain ⟨g1,g2,g3,g4⟩:=Classical.choose_spec hex
 rw [e]
 generalize Classical.choose hex=r at g1 g2 g3 g4
 apply Classical.byContradiction
 intro hne
 have:=nodup_sub (l:=[((now:Nat):Int),((q:Nat):Int),((r:Nat):Int)]) (m:=filtB (fun j=>on (es.getD j (0,0)) v&&p j) es.length) (by
  simp only [List.nodup_cons,List.mem_cons,List.not_mem_nil,or_false,not_or,List.nodup_nil,not_false_eq_true,and_true]
  omega) fun x hx=>by
   simp only [List.mem_cons,List.not_mem_nil,or_false] at hx
   rcases hx with rfl|rfl|rfl
   ·exact mem_filtB.2 ⟨_,rfl,hn1,by rw [hn3,hn2];rfl⟩
   ·exact mem_filtB.2 ⟨_,rfl,h1,by rw [h5,h3];rfl⟩
   ·exact mem_filtB.2 ⟨_,rfl,g1,by rw [g4,g2];rfl⟩
 unfold degB at h2
 rw [h2] at this
 simp at this
noncomputable def wkW (es:List (Int × Int)) (p:Nat→Bool) (e:Nat):Nat→Nat
 | 0=>(es.getD e (0,0)).1.toNat
 | t+1=>(wk es p e t).2
theorem wk_walk2 (hg:IsG n es) (h2:Deg2 n es p) (he:e<es.length) (hpe:p e=true):∀ t,t≤(compL es p e).length→Walk n es p e (es.getD e (0,0)).1.toNat (fun _=>False) (wkL es p e t) (wk es p e t).1 (wkW es p e t) (wk es p e t).2
 | 0,_=>by
  obtain ⟨d1,d2,d3,d4,d5⟩:=hg.ed.ends es[e] (List.getElem_mem he)
  rw [← getD_of (d:=(0,0)) he] at d1 d2 d3 d4 d5
  show Walk n es p e _ _ [] e (es.getD e (0,0)).1.toNat (es.getD e (0,0)).2.toNat
  refine ⟨(fun i hi=>by cases hi),List.nodup_nil,fun x=>by simp [degC],he,hpe,.refl,?_,?_,by omega,by omega,by omega,.inl ⟨rfl,rfl,rfl⟩⟩
  ·unfold on;simp only [Bool.or_eq_true,beq_iff_eq];left;omega
  ·unfold on;simp only [Bool.or_eq_true,beq_iff_eq];right;omega
 | t+1,ht=>by
  have hW:=wk_walk2 hg h2 he hpe t (by omega)
  have hend:∀ i,i<es.length→∀ x:Int,on (es.getD i (0,0)) x=true→0≤x∧x<n:=fun i hi x hx=>by
   obtain ⟨d1,d2,d3,d4,d5⟩:=hg.ed.ends es[i] (List.getElem_mem hi)
   rw [← getD_of (d:=(0,0)) hi] at d1 d2 d3 d4 d5
   unfold on at hx
   simp only [Bool.or_eq_true,beq_iff_eq] at hx
   omega
  have hnot:((wk es p e t).1:Int)∉wkL es p e t:=fun hm=>by
   have:=(hW.comp (hW.stop h2 hend (fun h=>h) (fun _ _ _ h _=>h) (.inl hm))).1
   rw [wkL_length] at this;omega
  have hvn:=hW.vn
  obtain ⟨q,q1,q2,q3,q4⟩:=other_left (now:=(wk es p e t).1) (h2 (wk es p e t).2 hvn (degB_pos hW.lt hW.pn hW.onv)) hW.lt
  have hnx:=nx_eq (h2 _ hvn (degB_pos hW.lt hW.pn hW.onv)) hW.lt hW.pn hW.onv q1 q2 q3 q4
  obtain ⟨d1,d2,d3,d4,d5⟩:=hg.ed.ends es[q] (List.getElem_mem q1)
  rw [← getD_of (d:=(0,0)) q1] at d1 d2 d3 d4 d5
  have hon:=q4
  unfold on at hon
  simp only [Bool.or_eq_true,beq_iff_eq] at hon
  have ho:(othN es (q:Int) (wk es p e t).2:Int)=(es.getD q (0,0)).1+(es.getD q (0,0)).2-(wk es p e t).2:=by unfold othN;rw [Int.toNat_natCast];omega
  rw [wkL_succ]
  have e1:(wk es p e (t+1)).1=q:=by rw [wk,hnx]
  have e2:(wk es p e (t+1)).2=othN es (q:Int) (wk es p e t).2:=by rw [wk,hnx]
  rw [e1,e2]
  show Walk n es p e _ _ _ q (wk es p e t).2 _
  refine hW.step hnot (fun h=>h) q1 q2 q3 q4 ?_ (by omega) (by omega)
  unfold on
  simp only [Bool.or_eq_true,beq_iff_eq]
  omega
theorem wk_walk (hg:IsG n es) (h2:Deg2 n es p) (he:e<es.length) (hpe:p e=true) (t:Nat) (ht:t≤(compL es p e).length):∃ a0 w,Walk n es p e a0 (fun _=>False) (wkL es p e t) (wk es p e t).1 w (wk es p e t).2:=⟨_,_,wk_walk2 hg h2 he hpe t ht⟩
theorem wk_not (hg:IsG n es) (h2:Deg2 n es p) (he:e<es.length) (hpe:p e=true) {t:Nat} (ht:t<(compL es p e).length):((wk es p e t).1:Int)∉wkL es p e t:=by
 obtain ⟨a0,w,hW⟩:=wk_walk hg h2 he hpe t (by omega)
 have hend:∀ i,i<es.length→∀ x:Int,on (es.getD i (0,0)) x=true→0≤x∧x<n:=fun i hi x hx=>by
  obtain ⟨d1,d2,d3,d4,d5⟩:=hg.ed.ends es[i] (List.getElem_mem hi)
  rw [← getD_of (d:=(0,0)) hi] at d1 d2 d3 d4 d5
  unfold on at hx
  simp only [Bool.or_eq_true,beq_iff_eq] at hx
  omega
 intro hm
 have:=(hW.comp (hW.stop h2 hend (fun h=>h) (fun _ _ _ h _=>h) (.inl hm))).1
 rw [wkL_length] at this;omega
theorem wkL_all (hg:IsG n es) (h2:Deg2 n es p) (he:e<es.length) (hpe:p e=true) (j:Nat):(j:Int)∈wkL es p e (compL es p e).length↔Rch (eAdj es p) e j:=by
 obtain ⟨a0,w,hW⟩:=wk_walk hg h2 he hpe _ (Nat.le_refl _)
 constructor
 ·intro hj
  obtain ⟨j',e1,_,_,h4,_⟩:=hW.mem _ hj
  obtain rfl:j=j':=by omega
  exact h4
 ·intro hr
  have hm:(j:Int)∈compL es p e:=mem_compL.2 ⟨j,rfl,(eRch_in hr ⟨he,hpe⟩).1,hr⟩
  refine nodup_sup (m:=compL es p e) hW.nd (fun x hx=>?_) (by rw [wkL_length];exact Nat.le_refl _) _ hm
  obtain ⟨i,rfl,h1,_,h3,_⟩:=hW.mem x hx
  exact mem_compL.2 ⟨i,rfl,h1,h3⟩
theorem wk_back (hg:IsG n es) (h2:Deg2 n es p) (he:e<es.length) (hpe:p e=true):(wk es p e (compL es p e).length).1=e:=by
 obtain ⟨T,hT⟩:∃ T,T=(compL es p e).length:=⟨_,rfl⟩
 have hW0:=wk_walk2 hg h2 he hpe 0 (by omega)
 have hW:=wk_walk2 hg h2 he hpe T (by omega)
 obtain ⟨q,q1,q2,q3,q4⟩:=other_left (now:=(wk es p e 0).1) (h2 _ hW0.vn (degB_pos hW0.lt hW0.pn hW0.onv)) hW0.lt
 have q3:q≠e:=q3
 have hT2:2≤T:=by
  have:=nodup_sub (l:=[((e:Nat):Int),(q:Int)]) (m:=compL es p e) (by simp;omega) fun x hx=>by
   simp only [List.mem_cons,List.not_mem_nil,or_false] at hx
   rcases hx with rfl|rfl
   ·exact mem_compL.2 ⟨e,rfl,he,.refl⟩
   ·exact mem_compL.2 ⟨q,rfl,q1,.step .refl ⟨q1,q2,_,hW0.onv,q4⟩⟩
  rw [← hT] at this;simpa using this
 rw [← hT]
 obtain ⟨t,rfl⟩:∃ t,T=t+1:=⟨T-1,by omega⟩
 have hWt:=wk_walk2 hg h2 he hpe t (by omega)
 have hC:((wk es p e (t+1)).1:Int)∈wkL es p e (t+1):=by rw [hT];exact (wkL_all hg h2 he hpe _).2 (by rw [← hT];exact hW.rch)
 have hm:∀ i∈wkL es p e (t+1),∃ j:Nat,i=j∧j<es.length∧p j=true:=fun i hi=>by obtain ⟨j,h1,h2,h3,_⟩:=hW.mem i hi;exact ⟨j,h1,h2,h3⟩
 have onw:on (es.getD (wk es p e (t+1)).1 (0,0)) ((wk es p e t).2:Nat)=true:=hW.onw
 have hne:(wk es p e (t+1)).1≠(wk es p e t).1:=fun h=>by
  obtain ⟨r,r1,r2,r3,r4⟩:=other_left (now:=(wk es p e t).1) (h2 _ hWt.vn (degB_pos hWt.lt hWt.pn hWt.onv)) hWt.lt
  have:=nx_eq (h2 _ hWt.vn (degB_pos hWt.lt hWt.pn hWt.onv)) hWt.lt hWt.pn hWt.onv r1 r2 r3 r4
  rw [wk,this] at h;exact r3 h
 have hd:degC es (wkL es p e (t+1)) (wk es p e t).2=2:=by
  have hle:=degC_le hm hW.nd (wk es p e t).2
  rw [h2 _ hWt.vn (degB_pos hWt.lt hWt.pn hWt.onv)] at hle
  have:2≤degC es (wkL es p e (t+1)) (wk es p e t).2:=by
   have:=nodup_sub (l:=[((wk es p e (t+1)).1:Int),((wk es p e t).1:Int)]) (m:=(wkL es p e (t+1)).filter fun i=>on (es.getD i.toNat (0,0)) (wk es p e t).2) (by simp;omega) fun x hx=>by
    rw [List.mem_filter]
    simp only [List.mem_cons,List.not_mem_nil,or_false] at hx
    rcases hx with rfl|rfl
    ·exact ⟨hC,by rw [Int.toNat_natCast];exact onw⟩
    ·exact ⟨by rw [wkL_succ];simp,by rw [Int.toNat_natCast];exact hWt.onv⟩
   unfold degC;simpa using this
  omega
 have hw:(wk es p e t).2=(es.getD e (0,0)).1.toNat:=by
  have:=hW.par (wk es p e t).2
  rw [hd] at this
  apply Classical.byContradiction
  intro hn
  have:=this.2 fun h=>hn (h.2 rfl)
  omega
 have hone:on (es.getD e (0,0)) ((wk es p e t).2:Nat)=true:=by rw [hw];exact hW0.onw
 have hec:e≠(wk es p e t).1:=fun h=>by
  refine wk_not hg h2 he hpe (t:=t) (by omega) ?_
  rw [← h]
  obtain ⟨s,rfl⟩:∃ s,t=s+1:=⟨t-1,by omega⟩
  unfold wkL
  exact List.mem_map.2 ⟨0,List.mem_range.2 (by omega),rfl⟩
 have:=nx_eq (h2 _ hWt.vn (degB_pos hWt.lt hWt.pn hWt.onv)) hWt.lt hWt.pn hWt.onv he hpe hec hone
 rw [wk];exact this
end
noncomputable def cycW (es:List (Int × Int)) (p:Nat→Bool):Nat→List (List Int)
 | 0=>[]
 | k+1=>cycW es p k++if p k=true∧cLeadB es p k=true then [wkL es p k (compL es p k).length] else []
end Go.Proofs
namespace Go.Proofs
open Go.Abs

variable {H G:AHeap} {v u f:Value} {l m c D:List Int} {es fs:List (Int × Int)} {K:Value→AHeap→Prop} {A A':Nat→Prop} {B:Nat} {ls ms:List (List Int)}

theorem cycW_skip {p:Nat→Bool} {k:Nat} (h:ETo es p k k∨p k=false):cycW es p (k+1)=cycW es p k:=by
 rw [cycW,if_neg,List.append_nil]
 rintro ⟨h1,h2⟩
 rcases h with h|h
 ·rw [ETo.lead h1] at h;rw [h] at h2;cases h2
 ·rw [h] at h1;cases h1
theorem cycW_lens (p:Nat→Bool):∀ k,(cycW es p k).map List.length=lensTo es p k
 | 0=>rfl
 | k+1=>by
  rw [cycW,lensTo,List.map_append,cycW_lens p k]
  split
  ·rw [List.map_singleton,wkL_length]
  ·rfl
theorem cycW_length (p:Nat→Bool) (k:Nat):(cycW es p k).length≤k:=by
 have:=congrArg List.length (cycW_lens (es:=es) p k)
 rw [List.length_map] at this
 clear this
 induction k with
 | zero=>exact Nat.le_refl _
 | succ k ih=>
  rw [cycW,List.length_append]
  split <;> simp <;> omega
theorem l04CyclesW_ok {n:Int} (h:Edges H v es) (hg:IsG n es) (hc:Ints H u l) (hS:IsS l es.length) (ho:OneAt n es l)
 (k:∀ v' G,H.le G→RowsF (fun b=>H.length≤b) G.length G v' (cycW es (leftP l) es.length)→K v' G):AC Tryz.prog T0 34 [.agg ⟨[.int .i64 n,v]⟩,u] H K:=by
 have n0:=hg.ed.lo;have n1:=hg.ed.hi
 have h30:es.length≤30:=by have:=hg.ed.len;omega
 have hll:l.length≤es.length:=by rw [hS.filt];exact filtB_length _ _
 obtain ⟨p,hp⟩:∃ p,p=leftP l:=⟨_,rfl⟩
 have hdeg:∀ x:Nat,(x:Int)<n→degB es p x=2:=fun x hx=>by rw [hp];exact left_deg hg hS ho hx
 rw [← hp] at k
 have hpm:∀ j:Nat,p j=true↔(j:Int)∉l:=fun j=>by
  rw [hp];unfold leftP
  rw [Bool.not_eq_true',← Bool.not_eq_true,bitB_mem hS]
 have hend:∀ i,i<es.length→∀ x:Int,on (es.getD i (0,0)) x=true→0≤x∧x<n:=fun i hi x hx=>by
  obtain ⟨d1,d2,d3,d4,d5⟩:=hg.ed.ends es[i] (List.getElem_mem hi)
  rw [← getD_of (d:=(0,0)) hi] at d1 d2 d3 d4 d5
  unfold on at hx
  simp only [Bool.or_eq_true,beq_iff_eq] at hx
  omega
 apply F34.ac
 unfold F34.B23
 refine newK_f (all_iv (edges_one' h)) fun H1 l1 n1' o1=>?_
 unfold F34.B22
 refine ld1_own o1 rfl ((h.le l1).len (mkR_int (by omega) (by omega) (by decide) fun H2 l2 n2 o2=>newK_f rfl fun H3 l3 n3 o3=>?_))
 rw [Int.toNat_natCast,rep_b] at o2
 rw [Int.toNat_natCast]
 obtain ⟨pm,hpmb⟩:∃ pm,pm=H1.length:=⟨_,rfl⟩
 rw [← hpmb] at o2 ⊢
 have b1:=l1.1
 have l13:=AHeap.le_trans l2 l3
 have o2':=o2.le l3
 unfold F34.B21 F34.L2
 refine ⟨fun x1 x2 x5 x6 x7 G=>u=x1∧H.length=x2∧.slice (some ⟨pm,0,none⟩) es.length (es.length+1)=x5∧H1.le G∧∃ i:Nat,x7=i∧i≤es.length∧∃ S,Own G pm 4 (LB S)∧S.length=es.length∧(∀ j,j<es.length→(S.getD j false=true↔ETo es p i j))∧RowsF (fun b=>pm<b) G.length G x6 (cycW es p i),
  fun _ _ _ _ x7 _=>es.length-x7.toNat,⟨rfl,rfl,rfl,l13,0,rfl,by omega,List.replicate es.length false,o2',by simp,fun j hj=>?_,.nil1 o3 (by omega) (by omega)⟩,?_⟩
 ·have:(List.replicate es.length false).getD j false=false:=by simp [List.getD,List.getElem?_replicate,hj]
  rw [this]
  refine ⟨(fun h=>by cases h),fun ⟨_,a,h,_⟩=>absurd h (by omega)⟩
 clear o2 o2' o3 l13 l3 l2
 rintro x1 x2 x5 x6 x7 G ⟨rfl,rfl,rfl,hG,i,rfl,hi,S,oS,hSl,hSe,hR⟩
 have hcl:=cycW_length (es:=es) p i
 have lG:=AHeap.le_trans l1 hG
 have oG:=o1.le hG
 unfold F34.B20
 refine ld1_own oG rfl ((h.le lG).len (pif_cases (fun hb=>?_) fun hb=>?_))
 ·have hil:i<es.length:=by have:=of_decide_eq_true hb;omega
  have skip:(ETo es p i i∨p i=false)→∀ N2:Value→Nat→Value→Value→Int→AHeap→Prop,((u=u∧H.length=H.length∧True∧H1.le G∧∃ i':Nat,(i:Int)+1=i'∧i'≤es.length∧∃ S,Own G pm 4 (LB S)∧S.length=es.length∧(∀ j,j<es.length→(S.getD j false=true↔ETo es p i' j))∧RowsF (fun b=>pm<b) G.length G x6 (cycW es p i'))→N2 u H.length (.slice (some ⟨pm,0,none⟩) es.length (es.length+1)) x6 ((i:Int)+1) G)→F34.B3 K N2 u H.length (.slice (some ⟨pm,0,none⟩) es.length (es.length+1)) x6 (i:Nat) G:=by
   intro hs N2 hN
   unfold F34.B3
   rw [wrap_id (by omega) (by omega)]
   refine hN ⟨rfl,rfl,trivial,hG,i+1,by omega,by omega,S,oS,hSl,fun j hj=>?_,?_⟩
   ·rw [hSe j hj,ETo.skip hs]
   ·rw [cycW_skip hs];exact hR
  unfold F34.B19
  refine own_idx (by omega) (by omega) (ld1_own oS (by rw [Int.toNat_natCast];exact LB_get (by omega)) (asB_mk (pif_cases (fun hb=>?_) fun hb=>?_)))
  ·refine skip (.inl ((hSe i hil).1 hb)) _ fun ⟨a1,a2,_,a4,i',e,a5,a6⟩=>⟨⟨rfl,rfl,rfl,a4,i',e,a5,a6⟩,by show es.length-((i:Int)+1).toNat<es.length-(i:Int).toNat;omega⟩
  have hnE:¬ ETo es p i i:=fun h=>by have:=(hSe i hil).2 h;rw [this] at hb;cases hb
  refine l04Has_ok (hc.le lG) (by omega) (asB_mk (pif_cases (fun hb=>?_) fun hb=>?_))
  ·have hpi:p i=false:=by
    have:=of_decide_eq_true hb
    cases hx:p i with
    | false=>rfl
    | true=>exact absurd this ((hpm i).1 hx)
   refine skip (.inr hpi) _ fun ⟨a1,a2,_,a4,i',e,a5,a6⟩=>⟨⟨rfl,rfl,rfl,a4,i',e,a5,a6⟩,by show es.length-((i:Int)+1).toNat<es.length-(i:Int).toNat;omega⟩
  clear skip
  have hpi:p i=true:=(hpm i).2 (of_decide_eq_false hb)
  have hlead:cLeadB es p i=true:=by
   cases hx:cLeadB es p i with
   | true=>rfl
   | false=>exact absurd ((ETo.lead hpi).2 hx) hnE
  obtain ⟨d1,d2,d3,d4,d5⟩:=hg.ed.ends es[i] (List.getElem_mem hil)
  rw [← getD_of (d:=(0,0)) hil] at d1 d2 d3 d4 d5
  obtain ⟨a0,ha0⟩:∃ a0:Nat,(es.getD i (0,0)).1=a0:=⟨(es.getD i (0,0)).1.toNat,by omega⟩
  obtain ⟨z0,hz0⟩:∃ z0:Nat,(es.getD i (0,0)).2=z0:=⟨(es.getD i (0,0)).2.toNat,by omega⟩
  unfold F34.B18
  obtain ⟨bb,oo,hk,c1,c2⟩:=(h.le lG).idx (show (0:Int)≤i by omega) (by omega)
  simp only [Int.toNat_natCast] at c1 c2
  refine ld1_own oG rfl (hk _ (ldI_mk c2 (newK_f rfl fun G1 lg1 ng1 og1=>?_)))
  rw [hz0]
  have hpmG:pm<G.length:=oS.lt
  have hGl:=lg1.1
  unfold F34.L5
  refine ⟨fun x1 x2 x5 x6' x7 x8 x9 x10 G'=>u=x1∧H.length=x2∧.slice (some ⟨pm,0,none⟩) es.length (es.length+1)=x5∧x6=x6'∧(i:Int)=x7∧H1.le G'∧G.length≤G'.length∧RowsF (fun b=>pm<b) G.length G' x6 (cycW es p i)∧∃ (now w z:Nat) (C:List Int) (S':List Bool),x9=now∧x10=z∧Fresh G.length G' x8 2 1 (LI C)∧Own G' pm 4 (LB S')∧S'.length=es.length∧(∀ j,j<es.length→(S'.getD j false=true↔ETo es p i j∨(j:Int)∈C))∧Walk n es p i a0 (ETo es p i) C now w z∧C=wkL es p i C.length∧(now,z)=wk es p i C.length,
   fun _ _ _ _ _ x8 _ _ _=>es.length-lenV x8,⟨rfl,rfl,rfl,rfl,rfl,AHeap.le_trans hG lg1,hGl,hR.le lg1,i,a0,z0,[],S,rfl,rfl,.inr ⟨_,0,Nat.le_refl _,rfl,og1,rfl⟩,oS.le lg1,hSl,fun j hj=>by rw [hSe j hj];simp,?_,rfl,?_⟩,?_⟩
  ·refine ⟨(fun i hi=>by cases hi),List.nodup_nil,fun x=>by simp [degC],hil,hpi,.refl,?_,?_,by omega,by omega,by omega,.inl ⟨rfl,rfl,rfl⟩⟩
   ·unfold on;rw [ha0];simp
   ·unfold on;rw [hz0];simp
  ·show (i,z0)=(i,(es.getD i (0,0)).2.toNat)
   rw [hz0];rfl
  clear oS hSl hSe hR og1 ng1 hk c1 c2 oG lG
  rintro x1 x2 x5 x6' x7 x8 x9 x10 G2 ⟨rfl,rfl,rfl,rfl,rfl,hG2,hGl2,hR,now,w,z,C,S,rfl,rfl,hF,oS,hSl,hSe,hW,hCw,hwk⟩
  have lG2:=AHeap.le_trans l1 hG2
  have oG2:=o1.le hG2
  have hnl:=hW.lt
  have hCl:C.length≤es.length:=by
   have:=nodup_sub (m:=upto es.length) hW.nd fun x hx=>by
    obtain ⟨j,rfl,h1,_⟩:=hW.mem x hx
    unfold upto;exact List.mem_map.2 ⟨j,List.mem_range.2 h1,rfl⟩
   rwa [upto_length] at this
  unfold F34.B17
  refine own_idx (by omega) (by omega) (ld1_own oS (by rw [Int.toNat_natCast];exact LB_get (by omega)) (asB_mk (pif_cases (fun hb=>?_) fun hb=>?_)))
  ·have hnot:¬ (ETo es p i now∨(now:Int)∈C):=fun h=>by
    have:=(hSe now hnl).2 h;rw [this] at hb;cases hb
   have hnC:(now:Int)∉C:=fun h=>hnot (.inr h)
   have hCl':C.length+1≤es.length:=by
    have:=nodup_sub (l:=C++[(now:Int)]) (m:=upto es.length) (by
     rw [List.nodup_append]
     refine ⟨hW.nd,by simp,fun a ha b hb=>?_⟩
     rw [List.mem_singleton] at hb
     rintro rfl
     rw [hb] at ha;exact hnC ha) fun x hx=>by
     unfold upto
     rcases List.mem_append.1 hx with hx|hx
     ·obtain ⟨j,rfl,h1,_⟩:=hW.mem x hx
      exact List.mem_map.2 ⟨j,List.mem_range.2 h1,rfl⟩
     ·rw [List.mem_singleton] at hx
      exact List.mem_map.2 ⟨now,List.mem_range.2 hnl,hx.symm⟩
    rw [upto_length] at this
    simpa using this
   unfold F34.B16
   refine own_idx (by omega) (by omega) (stK_1 oS (by simp;omega) rfl fun G3 b3 o3=>?_)
   rw [Int.toNat_natCast,← List.map_set] at o3
   have hF3:=hF.but b3 hpmG
   have hR3:=hR.but b3 (by omega)
   have hG3:=b3.le hG2 (by omega)
   unfold F34.B15
   refine hF3.sl.pushN E_int (by decide) (by rw [b3.len];exact hGl2) (n:=1) (ys:=[.int .i64 now]) rfl rfl (by simp;omega) (by simp) fun x8' G4 k4 ot4 nb4 f4=>?_
   have hk4:=k4.len
   have hG4:=k4.le hG3 (by have:=hG.1;omega)
   have lG4:=AHeap.le_trans l1 hG4
   have o4:=k4.own o3 hpmG
   have hR4:=hR3.keep k4
   unfold F34.B14
   have hzn:=hW.vn
   refine ldI_own (o1.le hG4) rfl (ld1_own (o1.le hG4) rfl (l01At_ok (h.le lG4) (by omega) fun a G5 l5 f5=>?_))
   have h3:=hg.three (v:=(z:Int)) (by omega) (by omega)
   have lG5:=AHeap.le_trans lG4 l5
   have hex:=other_left (hdeg z hzn) hnl
   unfold F34.B13 F34.L8
   refine ⟨fun y1 y2 y5 y6 y7 y8 y9 y10 y11 y12 y13 G'=>u=y1∧H.length=y2∧.slice (some ⟨pm,0,none⟩) es.length (es.length+1)=y5∧x6=y6∧(i:Int)=y7∧x8'=y8∧(now:Int)=y9∧(z:Int)=y10∧a=y11∧G5=G'∧∃ t:Nat,y13=t∧t≤3∧((y12=now∧∀ j,j<t→(atL es (z:Int)).getD j 0=now∨(atL es (z:Int)).getD j 0∈l)∨∃ q:Nat,y12=q∧q<es.length∧p q=true∧q≠now∧on (es.getD q (0,0)) z=true),
    fun _ _ _ _ _ _ _ _ _ _ y13 _=>3-y13.toNat,⟨rfl,rfl,rfl,rfl,rfl,rfl,rfl,rfl,rfl,rfl,0,rfl,by omega,.inl ⟨rfl,fun j hj=>absurd hj (by omega)⟩⟩,?_⟩
   rintro y1 y2 y5 y6 y7 y8 y9 y10 y11 y12 y13 G' ⟨rfl,rfl,rfl,rfl,rfl,rfl,rfl,rfl,rfl,rfl,t,rfl,ht,hq⟩
   unfold F34.B12
   refine pif_cases (fun hb=>?_) fun hb=>?_
   ·have ht3:t<3:=by have:=of_decide_eq_true hb;omega
    obtain ⟨q,hq1,hq2,hq3⟩:=at_get (es:=es) (w:=(z:Int)) (t:=t) (by omega)
    have nxt:((q:Int)=now∨(q:Int)∈l)→((y12=now∧∀ j,j<t→(atL es (z:Int)).getD j 0=now∨(atL es (z:Int)).getD j 0∈l)∨∃ q:Nat,y12=q∧q<es.length∧p q=true∧q≠now∧on (es.getD q (0,0)) z=true)→((y12=now∧∀ j,j<t+1→(atL es (z:Int)).getD j 0=now∨(atL es (z:Int)).getD j 0∈l)∨∃ q:Nat,y12=q∧q<es.length∧p q=true∧q≠now∧on (es.getD q (0,0)) z=true):=by
     intro hc h
     rcases h with ⟨h1,h2⟩|h
     ·refine .inl ⟨h1,fun j hj=>?_⟩
      by_cases e:j=t
      ·subst e;rw [hq1];exact hc
      ·exact h2 j (by omega)
     ·exact .inr h
    unfold F34.B11
    refine f5.ints.rd (by omega) (by omega) ?_
    rw [Int.toNat_natCast,hq1]
    refine pif_cases (fun hb=>?_) fun hb=>?_
    ·have hqn:(q:Int)≠now:=bne_iff_ne.1 hb
     refine f5.ints.rd (by omega) (by omega) ?_
     rw [Int.toNat_natCast,hq1]
     refine l04Has_ok (hc.le lG5) (by omega) (asB_mk (pif_cases (fun hb=>?_) fun hb=>?_))
     ·have hql:(q:Int)∉l:=by
       rw [Bool.not_eq_true'] at hb
       exact of_decide_eq_false hb
      unfold F34.B10
      refine f5.ints.rd (by omega) (by omega) ?_
      rw [Int.toNat_natCast,hq1]
      unfold F34.B9
      rw [wrap_id (by omega) (by omega)]
      exact ⟨⟨rfl,rfl,rfl,rfl,rfl,rfl,rfl,rfl,rfl,rfl,t+1,by omega,by omega,.inr ⟨q,rfl,hq2,(hpm q).2 hql,by omega,hq3⟩⟩,by show 3-((t:Int)+1).toNat<3-(t:Int).toNat;omega⟩
     ·have hql:(q:Int)∈l:=by
       rw [Bool.not_eq_false'] at hb
       exact of_decide_eq_true hb
      unfold F34.B9
      rw [wrap_id (by omega) (by omega)]
      exact ⟨⟨rfl,rfl,rfl,rfl,rfl,rfl,rfl,rfl,rfl,rfl,t+1,by omega,by omega,nxt (.inr hql) hq⟩,by show 3-((t:Int)+1).toNat<3-(t:Int).toNat;omega⟩
    ·have hqn:(q:Int)=now:=bne_eq_false_iff_eq.1 hb
     unfold F34.B9
     rw [wrap_id (by omega) (by omega)]
     exact ⟨⟨rfl,rfl,rfl,rfl,rfl,rfl,rfl,rfl,rfl,rfl,t+1,by omega,by omega,nxt (.inl hqn) hq⟩,by show 3-((t:Int)+1).toNat<3-(t:Int).toNat;omega⟩
   ·have ht3:t=3:=by have:=of_decide_eq_false hb;omega
    subst ht3
    obtain ⟨q,rfl,hq2,hq3,hq4,hq5⟩:∃ q:Nat,y12=q∧q<es.length∧p q=true∧q≠now∧on (es.getD q (0,0)) z=true:=by
     rcases hq with ⟨_,h2⟩|hq
     ·obtain ⟨q,g1,g2,g3,g4⟩:=hex
      have hm:(q:Int)∈atL es (z:Int):=mem_atL.2 ⟨q,rfl,g1,g4⟩
      obtain ⟨j,hj,hje⟩:=List.getElem_of_mem hm
      have:=h2 j (by omega)
      rw [getD_of hj,hje] at this
      rcases this with h|h
      ·exact absurd h (by omega)
      ·exact absurd h ((hpm q).1 g2)
     ·exact hq
    obtain ⟨e1,e2,e3,e4,e5⟩:=hg.ed.ends es[q] (List.getElem_mem hq2)
    rw [← getD_of (d:=(0,0)) hq2] at e1 e2 e3 e4 e5
    obtain ⟨y,hy⟩:∃ y:Nat,(es.getD q (0,0)).1+(es.getD q (0,0)).2-(z:Int)=y:=⟨((es.getD q (0,0)).1+(es.getD q (0,0)).2-(z:Int)).toNat,by rcases on_oth hq5 with e|e <;> omega⟩
    have hyn:(y:Int)<n:=by rcases on_oth hq5 with e|e <;> omega
    have hyo:on (es.getD q (0,0)) y=true:=by
     unfold on
     simp only [Bool.or_eq_true,beq_iff_eq]
     rcases on_oth hq5 with e|e <;> omega
    have hzy:z≠y:=by
     have:=hq5
     unfold on at this
     simp only [Bool.or_eq_true,beq_iff_eq] at this
     omega
    unfold F34.B7 F34.B6
    refine ldI_own ((o1.le hG4).le l5) rfl (ld1_own ((o1.le hG4).le l5) rfl (l01Other_ok (e:=(q:Int)) (h.le lG5) (by omega) (by omega) (by rw [Int.toNat_natCast];omega) (by rw [Int.toNat_natCast];omega) (by omega) fun G6 l6=>asI_mk ?_))
    rw [Int.toNat_natCast,hy]
    have l56:=AHeap.le_trans l5 l6
    have hl56:=l56.1
    have f6:=f4.le l56
    refine ⟨⟨rfl,rfl,rfl,rfl,rfl,AHeap.le_trans hG4 l56,by have:=b3.len;omega,hR4.le l56,q,z,y,C++[(now:Int)],S.set now true,rfl,rfl,by simpa using f6,o4.le l56,by simpa using hSl,fun j hj=>?_,hW.step hnC (fun h=>hnot (.inl h)) hq2 hq3 hq4 hq5 hyo hzy hyn,?_,?_⟩,?_⟩
    ·rw [setB (by omega)]
     simp only [insB,Bool.or_eq_true,decide_eq_true_eq,hSe j hj,List.mem_append,List.mem_singleton]
     constructor
     ·rintro ((h|h)|h)
      ·exact .inl h
      ·exact .inr (.inl h)
      ·exact .inr (.inr (by omega))
     ·rintro (h|h|h)
      ·exact .inl (.inl h)
      ·exact .inl (.inr h)
      ·exact .inr (by omega)
    ·rw [List.length_append,List.length_singleton,wkL_succ,← hCw]
     have:now=(wk es p i C.length).1:=by rw [← hwk]
     rw [← this]
    ·rw [List.length_append,List.length_singleton]
     have e1:now=(wk es p i C.length).1:=by rw [← hwk]
     have e2:z=(wk es p i C.length).2:=by rw [← hwk]
     have hnx:=nx_eq (hdeg z hzn) hnl hW.pn hW.onv hq2 hq3 hq4 hq5
     rw [wk,← e1,← e2,hnx]
     have:othN es (q:Int) z=y:=by unfold othN;rw [Int.toNat_natCast];omega
     rw [this]
    ·show es.length-lenV x8'<es.length-lenV x8
     rw [Sl_lenV f6.sl,Sl_lenV hF.sl]
     simp;omega
  ·have hmet:S.getD now false=true:=by simpa using hb
   have hst:(now:Int)∈C∨ETo es p i now:=((hSe now hnl).1 hmet).symm
   have hall:=hW.stop (fun x hx _=>hdeg x hx) hend hnE (fun a b _ ha hab=>ha.closed hab) hst
   obtain ⟨hclen,hciff⟩:=hW.comp hall
   unfold F34.B4
   refine hR.push hGl2 (fun b hb=>by omega) hF (by omega) fun v' G3 ot nb hlen3 hR3=>?_
   unfold F34.B3
   rw [wrap_id (by omega) (by omega)]
   have hbo:∀ b,bk x6=some b→pm<b:=fun b hb=>by
    obtain ⟨vs,_,_,q3,_⟩:=hR
    exact (q3 b hb).1
   refine ⟨⟨rfl,rfl,rfl,⟨by have:=hG2.1;omega,fun b o ho'=>ot b o (fun hv=>by have:=hbo b hv;have:=lt_of_get ho';omega) (hG2.2 _ _ ho')⟩,i+1,by omega,by omega,S,ot pm _ (fun hv=>by have:=hbo pm hv;omega) oS,hSl,fun j hj=>?_,?_⟩,by show es.length-((i:Int)+1).toNat<es.length-(i:Int).toNat;omega⟩
   ·rw [hSe j hj,ETo.succ,hciff j]
    refine or_congr Iff.rfl ⟨fun hr=>⟨hpi,(eRch_in hr ⟨hil,hpi⟩).2,hr⟩,fun hr=>hr.2.2⟩
   ·rw [cycW,if_pos ⟨hpi,hlead⟩,← hclen,← hCw];exact hR3
 ·have hil:i=es.length:=by have:=of_decide_eq_false hb;omega
  subst hil
  unfold F34.B1
  exact k _ _ lG (hR.mono (fun b hb=>by omega) (Nat.le_refl _))
end Go.Proofs
namespace Go.Proofs
open Go.Abs

variable {H G:AHeap} {v u f:Value} {l m c D:List Int} {es fs:List (Int × Int)} {K:Value→AHeap→Prop} {p:Nat→Bool} {e:Nat}

noncomputable def tiDir:TI:=(T0 61).getD ⟨.bool,0,0,undef⟩
theorem E_dir:Elem T0 61 2:=⟨tiDir,by kernel_rfl,by kernel_rfl,of_decide_eq_true (by kernel_rfl),by kernel_rfl⟩
def LD (ds:List (Nat × Bool)):List Value:=ds.flatMap fun d=>[.int .i64 (d.1:Nat),.bool d.2]
theorem LD_snoc (ds:List (Nat × Bool)) (d:Nat × Bool):LD (ds++[d])=LD ds++[.int .i64 (d.1:Nat),.bool d.2]:=by simp [LD]
theorem LD_length:∀ (ds:List (Nat × Bool)),(LD ds).length=ds.length*2
 | []=>rfl
 | d::ds=>by have:=LD_length ds;simp [LD] at this ⊢;omega
noncomputable def dirT (es:List (Int × Int)) (p:Nat→Bool) (e:Nat):Nat→Nat × Bool
 | 0=>((wk es p e 0).1,false)
 | t+1=>((wk es p e (t+1)).1,(es.getD (wk es p e (t+1)).1 (0,0)).2==((wk es p e t).2:Int))
theorem dirT_fst (es:List (Int × Int)) (p:Nat→Bool) (e t:Nat):(dirT es p e t).1=(wk es p e t).1:=by cases t <;> rfl
noncomputable def dirL (es:List (Int × Int)) (p:Nat→Bool) (e T:Nat):List (Nat × Bool):=(List.range T).map (dirT es p e)
theorem dirL_succ (es:List (Int × Int)) (p:Nat→Bool) (e T:Nat):dirL es p e (T+1)=dirL es p e T++[dirT es p e T]:=by
 unfold dirL;rw [List.range_succ,List.map_append];rfl
theorem dirL_length (es:List (Int × Int)) (p:Nat→Bool) (e T:Nat):(dirL es p e T).length=T:=by simp [dirL]
theorem end_ok {n:Int} {i:Nat} {b:Bool} (h:Edges H v es) (hi:i<es.length) (k:∀ G,H.le G→K (.int .i64 (if b then (es.getD i (0,0)).1 else (es.getD i (0,0)).2)) G):AC Tryz.prog T0 62 [.agg ⟨[.int .i64 n,v]⟩,.agg ⟨[.int .i64 (i:Nat),.bool b]⟩] H K:=by
 apply F62.ac
 unfold F62.B4
 refine newK_f (all_iv (edges_one' h)) fun H1 l1 _ o1=>newK_f rfl fun H2 l2 _ o2=>?_
 have l12:=AHeap.le_trans l1 l2
 have o12:=o1.le l2
 have k:=k _ l12
 obtain ⟨bb,oo,hk,c1,c2⟩:=(h.le l12).idx (show (0:Int)≤i by omega) (by omega)
 simp only [Int.toNat_natCast] at c1 c2
 unfold F62.B3
 refine ld1_own o2 rfl (asB_mk ?_)
 cases b with
 | true=>
  refine pif_t rfl ?_
  unfold F62.B2
  exact ld1_own o12 rfl (ldI_own o2 rfl (hk _ (ldI_mk c1 k)))
 | false=>
  refine pif_f rfl ?_
  unfold F62.B1
  exact ld1_own o12 rfl (ldI_own o2 rfl (hk _ (ldI_mk c2 k)))
theorem fresh_lenV {m:Nat} {t:TypeId} {ds:List (Nat × Bool)} (h:Fresh m H v t 2 (LD ds)):lenV v=ds.length:=by
 have hl:=LD_length ds
 rcases h with ⟨h0,rfl|⟨a,rfl⟩⟩|⟨b,n,_,rfl,_,h4⟩
 ·rw [h0] at hl;simp [lenV] at hl ⊢;omega
 ·rw [h0] at hl;simp [lenV] at hl ⊢;omega
 ·simp only [lenV];omega
theorem dir_end {n:Int} (hg:IsG n es) (h2:Deg2 n es p) (he:e<es.length) (hpe:p e=true) {t:Nat} (ht:t<(compL es p e).length) :
 (if (dirT es p e t).2 then (es.getD (wk es p e t).1 (0,0)).1 else (es.getD (wk es p e t).1 (0,0)).2)=((wk es p e t).2:Int):=by
 cases t with
 | zero=>
  obtain ⟨d1,d2,d3,d4,d5⟩:=hg.ed.ends es[e] (List.getElem_mem he)
  rw [← getD_of (d:=(0,0)) he] at d1 d2 d3 d4 d5
  show (es.getD e (0,0)).2=(((es.getD e (0,0)).2.toNat:Nat):Int)
  omega
 | succ t=>
  obtain ⟨a0,w,hW⟩:=wk_walk hg h2 he hpe (t+1) (by omega)
  obtain ⟨a1,w1,hW1⟩:=wk_walk hg h2 he hpe t (by omega)
  have hwl:=hW.lt
  obtain ⟨d1,d2,d3,d4,d5⟩:=hg.ed.ends es[(wk es p e (t+1)).1] (List.getElem_mem hwl)
  rw [← getD_of (d:=(0,0)) hwl] at d1 d2 d3 d4 d5
  have hvn:=hW1.vn
  obtain ⟨q,q1,q2,q3,q4⟩:=other_left (now:=(wk es p e t).1) (h2 (wk es p e t).2 hvn (degB_pos hW1.lt hW1.pn hW1.onv)) hW1.lt
  have hnx:=nx_eq (h2 _ hvn (degB_pos hW1.lt hW1.pn hW1.onv)) hW1.lt hW1.pn hW1.onv q1 q2 q3 q4
  have e1:(wk es p e (t+1)).1=q:=by rw [wk,hnx]
  have e2:(wk es p e (t+1)).2=othN es (q:Int) (wk es p e t).2:=by rw [wk,hnx]
  have hb:(dirT es p e (t+1)).2=((es.getD (wk es p e (t+1)).1 (0,0)).2==((wk es p e t).2:Int)):=rfl
  rw [hb,e2]
  rw [e1] at d1 d2 d3 d4 d5 ⊢
  unfold on at q4
  simp only [Bool.or_eq_true,beq_iff_eq] at q4
  unfold othN
  rw [Int.toNat_natCast]
  by_cases hx:(es.getD q (0,0)).2=((wk es p e t).2:Int)
  ·rw [if_pos (by rw [hx];simp)];omega
  ·rw [if_neg (by simpa using hx)];omega
theorem around_ok {n:Int} {s:Nat} (h:Edges H v es) (hg:IsG n es) (h2:Deg2 n es p) (he:e<es.length) (hpe:p e=true) (hs:∀ j,s.testBit j=true↔j<es.length∧Rch (eAdj es p) e j) (hlow:∀ j,j<e→¬ Rch (eAdj es p) e j)
 (k:∀ w G,H.le G→Fresh H.length G w 61 2 (LD (dirL es p e (compL es p e).length))→K w G):AC Tryz.prog T0 32 [.agg ⟨[.int .i64 n,v]⟩,.int .u64 (s:Nat)] H K:=by
 have n0:=hg.ed.lo;have n1:=hg.ed.hi
 have h30:es.length≤30:=by have:=hg.ed.len;omega
 have hsl:s<2^64:=Nat.lt_of_lt_of_le (bits_lt fun j hj=>((hs j).1 hj).1) (Nat.pow_le_pow_right (by decide) (by omega))
 obtain ⟨T,hT⟩:∃ T,T=(compL es p e).length:=⟨_,rfl⟩
 have hTl:T≤es.length:=by rw [hT];exact filtB_length _ _
 have hTp:0<T:=by rw [hT];exact List.length_pos_of_mem (mem_compL.2 ⟨e,rfl,he,.refl⟩)
 rw [← hT] at k
 apply F32.ac
 unfold F32.B12
 refine newK_f (all_iv (edges_one' h)) fun H1 l1 _ o1=>?_
 unfold F32.B11
 refine list_ok hsl fun w0 H2 l2 f2=>?_
 have hbl:bitsL s=filtB (fun j=>s.testBit j) es.length:=bitsL_filt (by omega) fun j hj=>((hs j).1 hj).1
 have hfirst:(bitsL s).getD 0 0=(e:Int)∧0<(bitsL s).length:=by
  have hm:(e:Int)∈bitsL s:=by rw [hbl];exact mem_filtB.2 ⟨e,rfl,he,(hs e).2 ⟨he,.refl⟩⟩
  have ha:Asc (bitsL s):=by rw [hbl];exact filtB_asc _ _
  cases hl:bitsL s with
  | nil=>rw [hl] at hm;cases hm
  | cons a r=>
   refine ⟨?_,by simp⟩
   rw [hl] at hm ha
   have hma:a∈filtB (fun j=>s.testBit j) es.length:=by rw [← hbl,hl];simp
   obtain ⟨j,rfl,_,hj⟩:=mem_filtB.1 hma
   show ((j:Nat):Int)=e
   rcases List.mem_cons.1 hm with h|h
   ·omega
   ·unfold Asc at ha
    have:=(List.pairwise_cons.1 ha).1 _ h
    exact absurd ((hs j).1 hj).2 (hlow j (by omega))
 refine f2.ints.rd (by decide) (by omega) ?_
 rw [show (0:Int).toNat=0 from rfl,hfirst.1]
 have l12:=AHeap.le_trans l1 l2
 have o2:=o1.le l2
 refine newK_f rfl fun H3 l3 n3 o3=>stK_f o3 (by simp) (by simp [Value.oneCell']) rfl fun H4 b4 o4=>?_
 obtain ⟨x5,hx5⟩:∃ x5,x5=H2.length:=⟨_,rfl⟩
 rw [← hx5] at o4 ⊢
 have o4:Own H4 x5 61 [.int .i64 (e:Nat),.bool false]:=by simpa using o4
 have l24:H2.le H4:=b4.le l3 (Nat.le_refl _)
 have hl4:H4.length=H2.length+1:=by rw [b4.len];omega
 unfold F32.B10 F32.L1
 refine ⟨fun x1 x2 x5' x6 G=>H.length=x2∧x5=x5'∧H2.le G∧x5+1≤G.length∧∃ t:Nat,t<T∧∃ st:Nat,x1=((st:Nat):Int)∧(∀ j,st.testBit j=true↔s.testBit j=true∧(j:Int)∉wkL es p e t)∧Own G x5 61 [.int .i64 ((wk es p e t).1:Nat),.bool (dirT es p e t).2]∧Fresh (x5+1) G x6 61 2 (LD (dirL es p e t)),
  fun _ _ _ x6 _=>31-lenV x6,⟨rfl,rfl,l24,by omega,0,hTp,s,rfl,fun j=>by simp [wkL],o4,.inl ⟨rfl,.inl rfl⟩⟩,?_⟩
 clear o4 o3 b4 l24 l3 f2
 rintro x1 x2 x5' x6 G ⟨rfl,rfl,hG,hGl,t,ht,st,rfl,hst,oD,hF⟩
 have lG:=AHeap.le_trans l12 hG
 have oG:=o2.le hG
 obtain ⟨a0,w,hW⟩:=wk_walk hg h2 he hpe t (by omega)
 have hwl:=hW.lt
 have hstl:st<2^64:=Nat.lt_of_lt_of_le (bits_lt fun j hj=>((hs j).1 ((hst j).1 hj).1).1) (Nat.pow_le_pow_right (by decide) (by omega))
 unfold F32.B9
 refine ldI_own oD rfl (ld1_own oD rfl (asB_mk ?_))
 refine hF.sl.pushN E_dir (by decide) hGl (n:=1) (ys:=[.int .i64 ((wk es p e t).1:Nat),.bool (dirT es p e t).2]) rfl rfl (by rw [LD_length,dirL_length];simp;omega) (by simp) fun x6' G2 k2 ot2 nb2 f2=>?_
 have f2:Fresh (x5+1) G2 x6' 61 2 (LD (dirL es p e (t+1))):=by
  rw [dirL_succ,LD_snoc,dirT_fst];exact f2
 have hk2:=k2.len
 have oD2:=k2.own oD (by omega)
 have hG2:H2.le G2:=k2.le hG (by omega)
 have lG2:=AHeap.le_trans l12 hG2
 have oG2:=o2.le hG2
 unfold F32.B8
 refine ldI_own oD2 rfl ⟨by omega,?_⟩
 have pw:2^(wk es p e t).1<2^64:=Nat.pow_lt_pow_right (by decide) (by omega)
 rw [one_shl (by omega) (by omega),Int.toNat_natCast]
 have band:IntKind.u64.wrap ((BitVec.ofInt 64 ((st:Nat):Int)&&&~~~(BitVec.ofInt 64 ((2^(wk es p e t).1:Nat):Int))).toNat:Int)=((st&&&(2^64-(2^(wk es p e t).1+1)):Nat):Int):=by
  have hs':st&&&(2^64-(2^(wk es p e t).1+1))<2^64:=Nat.lt_of_le_of_lt Nat.and_le_left hstl
  rw [bv_nat,bv_nat,BitVec.toNat_and,BitVec.toNat_not,BitVec.toNat_ofNat,BitVec.toNat_ofNat,Nat.mod_eq_of_lt hstl,Nat.mod_eq_of_lt pw,show 2^64-1-2^(wk es p e t).1=2^64-(2^(wk es p e t).1+1) by omega,u64_nat hs']
 rw [band]
 obtain ⟨s2,hs2⟩:∃ s2,s2=st&&&(2^64-(2^(wk es p e t).1+1)):=⟨_,rfl⟩
 rw [← hs2]
 have hs2l:s2<2^64:=by rw [hs2];exact Nat.lt_of_le_of_lt Nat.and_le_left hstl
 have hs2b:∀ j,s2.testBit j=true↔s.testBit j=true∧(j:Int)∉wkL es p e (t+1):=by
  intro j
  rw [hs2,Nat.testBit_and,Nat.testBit_two_pow_sub_succ pw,Nat.testBit_two_pow,wkL_succ,List.mem_append,List.mem_singleton]
  simp only [Bool.and_eq_true,decide_eq_true_eq,Bool.not_eq_true',decide_eq_false_iff_not,hst j]
  constructor
  ·rintro ⟨⟨a1,a2⟩,a3,a4⟩
   exact ⟨a1,fun h=>h.elim a2 fun h=>a4 (by omega)⟩
  ·rintro ⟨a1,a2⟩
   refine ⟨⟨a1,fun h=>a2 (.inl h)⟩,?_,fun h=>a2 (.inr (by omega))⟩
   have:=((hs j).1 a1).1;omega
 unfold F32.B7
 refine ldI_own oG2 rfl (ld1_own oG2 rfl (ldI_own oD2 rfl (ld1_own oD2 rfl (asB_mk (end_ok (h.le lG2) hwl fun G3 l3=>asI_mk ?_)))))
 rw [dir_end hg h2 he hpe (by omega)]
 have hvn:=hW.vn
 unfold F32.B6
 have lG3:=AHeap.le_trans lG2 l3
 refine ldI_own (oG2.le l3) rfl (ld1_own (oG2.le l3) rfl (at_ok (h.le lG3) (by omega) fun q G4 l4 f4=>?_))
 have har:∀ x∈atL es ((wk es p e t).2:Int),0≤x∧x<64:=fun x hx=>by
  obtain ⟨i,rfl,hi,_⟩:=mem_atL.1 hx
  omega
 refine setOf_ok f4.ints (by have:=atTo_length es ((wk es p e t).2:Int) es.length;unfold atL;omega) har (asI_mk ?_)
 rw [bits_and (setN_lt fun x hx=>(har x hx).2) hs2l]
 obtain ⟨X,hX⟩:∃ X,X=setN (atL es ((wk es p e t).2:Int))&&&s2:=⟨_,rfl⟩
 rw [← hX]
 have hXl:X<2^64:=by rw [hX];exact Nat.lt_of_le_of_lt Nat.and_le_right hs2l
 have hXb:∀ j,X.testBit j=true↔(j:Int)∈atL es ((wk es p e t).2:Int)∧s.testBit j=true∧(j:Int)∉wkL es p e (t+1):=fun j=>by
  rw [hX,Nat.testBit_and,Bool.and_eq_true,hs2b j,setN_bit fun x hx=>(har x hx).1]
  simp
 have lG4:=AHeap.le_trans l3 l4
 have hG4:=AHeap.le_trans hG2 lG4
 have lH4:=AHeap.le_trans l12 hG4
 have nextq:t+1<T→X.testBit (wk es p e (t+1)).1=true:=by
  intro h1
  obtain ⟨a1,w1,hW1⟩:=wk_walk hg h2 he hpe (t+1) (by omega)
  rw [hXb]
  refine ⟨mem_atL.2 ⟨_,rfl,hW1.lt,?_⟩,(hs _).2 ⟨hW1.lt,hW1.rch⟩,wk_not hg h2 he hpe (by omega)⟩
  obtain ⟨q,q1,q2,q3,q4⟩:=other_left (now:=(wk es p e t).1) (h2 (wk es p e t).2 hvn (degB_pos hW.lt hW.pn hW.onv)) hW.lt
  have hnx:=nx_eq (h2 _ hvn (degB_pos hW.lt hW.pn hW.onv)) hW.lt hW.pn hW.onv q1 q2 q3 q4
  have e1:(wk es p e (t+1)).1=q:=by rw [wk,hnx]
  rw [e1];exact q4
 unfold F32.B5
 refine pif_cases (fun hb=>?_) fun hb=>?_
 ·have hX0:X=0:=by have:=beq_iff_eq.1 hb;omega
  have hT1:T=t+1:=by
   rcases Nat.lt_or_ge (t+1) T with h1|h1
   ·have:=nextq h1
    rw [hX0] at this;simp at this
   ·omega
  unfold F32.B4
  rw [hT1] at k
  have:=l12.1
  exact k _ _ lH4 ((f2.le lG4).less (by omega))
 ·have hX0:X≠0:=fun h=>by rw [h] at hb;simp at hb
  have hT1:t+1<T:=by
   rcases Nat.lt_or_ge (t+1) T with h1|h1
   ·exact h1
   ·exfalso
    apply hX0
    apply Nat.eq_of_testBit_eq
    intro j
    rw [Nat.zero_testBit]
    cases hx:X.testBit j with
    | false=>rfl
    | true=>
     obtain ⟨_,a2,a3⟩:=(hXb j).1 hx
     have hT1:t+1=(compL es p e).length:=by omega
     rw [hT1,wkL_all hg h2 he hpe] at a3
     exact absurd ((hs j).1 a2).2 a3
  obtain ⟨a1,w1,hW1⟩:=wk_walk hg h2 he hpe (t+1) (by omega)
  have huniq:∀ j,X.testBit j=true→j=(wk es p e (t+1)).1:=by
   intro j hj
   obtain ⟨a1,a2,a3⟩:=(hXb j).1 hj
   obtain ⟨j',e1,j1,j2⟩:=mem_atL.1 a1
   obtain rfl:j=j':=by omega
   have hpj:=(eRch_in ((hs j).1 a2).2 ⟨he,hpe⟩).2
   have hne:j≠(wk es p e t).1:=fun e=>a3 (by rw [e,wkL_succ];simp)
   rw [wk,nx_eq (h2 _ hvn (degB_pos hW.lt hW.pn hW.onv)) hW.lt hW.pn hW.onv j1 hpj hne j2]
  unfold F32.B3
  refine list_ok hXl fun q2 G5 l5 f5=>?_
  have hXbl:bitsL X=filtB (fun j=>X.testBit j) es.length:=bitsL_filt (by omega) fun j hj=>((hs j).1 ((hXb j).1 hj).2.1).1
  have hm:(((wk es p e (t+1)).1:Nat):Int)∈bitsL X:=by rw [hXbl];exact mem_filtB.2 ⟨_,rfl,hW1.lt,nextq hT1⟩
  have hpos:=List.length_pos_of_mem hm
  have hget:(bitsL X).getD 0 0=((wk es p e (t+1)).1:Int):=by
   rw [getD_of hpos]
   have hmem:(bitsL X)[0]∈filtB (fun j=>X.testBit j) es.length:=by rw [← hXbl];exact List.getElem_mem hpos
   obtain ⟨j,e1,_,hj⟩:=mem_filtB.1 hmem
   rw [e1,huniq j hj]
  refine f5.ints.rd (by decide) (by omega) ?_
  rw [show (0:Int).toNat=0 from rfl,hget]
  have hG5:=AHeap.le_trans hG4 l5
  have lH5:=AHeap.le_trans l12 hG5
  have lG5:=AHeap.le_trans lG4 l5
  have oD5:=oD2.le lG5
  have hl5:=lG5.1
  unfold F32.B2
  have hwl1:=hW1.lt
  obtain ⟨bb,oo,hk,c1,c2⟩:=(h.le lH5).idx (show (0:Int)≤((wk es p e (t+1)).1:Nat) by omega) (by omega)
  simp only [Int.toNat_natCast] at c1 c2
  refine ld1_own (o2.le hG5) rfl (hk _ (ldI_mk c2 (stK_f oD5 (by simp) (by simp [Value.oneCell']) rfl fun G6 b6 o6=>?_)))
  have o6:Own G6 x5 61 [.int .i64 ((wk es p e (t+1)).1:Nat),.bool (dirT es p e (t+1)).2]:=by
   rw [show (dirT es p e (t+1)).2=((es.getD (wk es p e (t+1)).1 (0,0)).2==((wk es p e t).2:Int)) from rfl]
   simpa using o6
  have f6:=(f2.le lG5).but b6 (by omega)
  refine ⟨⟨rfl,rfl,b6.le hG5 (by omega),by rw [b6.len];omega,t+1,hT1,s2,rfl,hs2b,o6,f6⟩,?_⟩
  show 31-lenV x6'<31-lenV x6
  rw [fresh_lenV f2,fresh_lenV hF,dirL_length,dirL_length]
  omega
end Go.Proofs
namespace Go.Proofs
open Go.Abs

variable {H:AHeap} {v u f:Value} {l m c:List Int} {es fs:List (Int × Int)} {K:Value→AHeap→Prop}

theorem ends_range {n:Int} (hd:IsEd n es) (hs:∀ x∈l,0≤x∧x<es.length):∀ x∈ends es l,0≤x∧x<n:=by
 intro x hx
 unfold ends at hx
 rw [List.mem_flatMap] at hx
 obtain ⟨i,hi,hx⟩:=hx
 have hr:=hs i hi
 have hil:i.toNat<es.length:=by omega
 obtain ⟨d1,d2,d3,d4,d5⟩:=hd.ends es[i.toNat] (List.getElem_mem hil)
 rw [getD_of hil] at hx
 simp at hx
 rcases hx with rfl|rfl <;> omega
theorem setN_append (l m:List Int):setN (l++m)=m.foldl (fun s i=>s|||2^i.toNat) (setN l):=by unfold setN;rw [List.foldl_append]
theorem isMatching_ok {n:Int} (h:Edges H v es) (hl:es.length≤1048576) (hg:IsG n es) (hc:Ints H u l) (hcl:l.length≤1048576) (k:∀ G,H.le G→K (.bool (decide (IsM n es l))) G) :
 AC Tryz.prog T0 28 [.agg ⟨[.int .i64 n,v]⟩,u] H K:=by
 have n0:=hg.ed.lo;have n1:=hg.ed.hi;have n2:=hg.ed.even
 apply F28.ac
 unfold F28.B11
 refine newK_f (all_iv (edges_one' h)) fun H1 l1 n1' o1=>?_
 unfold F28.B10
 have no:∀ G,H.le G→¬ IsM n es l→F28.B9 K G:=by
  intro G hG hno
  unfold F28.B9
  have k:=k _ hG
  rw [decide_eq_false hno] at k;exact k
 refine ldI_own o1 rfl (ld1_own o1 rfl (IsGraph_ok (h.le l1) hl fun H2 l2=>asB_mk (pif_f (by rw [decide_eq_true hg];rfl) ?_)))
 have l12:=AHeap.le_trans l1 l2
 have o2:=l2.2 _ _ o1
 refine ld1_own o2 rfl (lengthE_ok (h.le l12) (asI_mk (isSet_ok (hc.le l12) (by omega) (by omega) (by omega) (asB_mk (pif_cases (fun hb=>?_) fun hb=>?_)))))
 ·rw [Bool.not_eq_true'] at hb
  exact no _ l12 fun hi=>of_decide_eq_false hb hi.set
 ·rw [Bool.not_eq_false'] at hb
  have hs:IsS l es.length:=of_decide_eq_true hb
  refine ldI_own o2 rfl (lengthL_ok (hc.le l12) (asI_mk ⟨AHeap.le_refl _,?_⟩))
  rw [show Int.tdiv n 2=n/2 from Int.tdiv_eq_ediv_of_nonneg (by omega),wrap_id (by omega) (by omega)]
  refine pif_cases (fun hb=>?_) fun hb=>?_
  ·exact no _ l12 fun hi=>by have:=hi.len;have:=bne_iff_ne.1 hb;omega
  ·have hlen:(l.length:Int)=n/2:=bne_eq_false_iff_eq.1 hb
   have hsr:∀ x∈l,0≤x∧x<es.length:=hs.range
   have her:=ends_range hg.ed hsr
   have he64:∀ k,∀ x∈ends es (l.take k),x<64:=fun k x hx=>by
    have:=ends_range hg.ed (l:=l.take k) (fun y hy=>hsr y (List.mem_of_mem_take hy)) x hx
    omega
   unfold F28.B8 F28.B7
   refine (hc.le l12).len ?_
   unfold F28.L2
   refine ⟨fun x2 x5 x27 x28 x29 G=>x2=H.length∧x27=u∧x28=l.length∧G=H2∧∃ i:Nat,x29=i∧i≤l.length∧x5=(setN (ends es (l.take i)):Nat),fun _ _ _ _ x29 _=>l.length-x29.toNat,⟨rfl,rfl,rfl,rfl,0,rfl,by omega,rfl⟩,?_⟩
   rintro x2 x5 x27 x28 x29 G ⟨rfl,rfl,rfl,rfl,i,rfl,hi,rfl⟩
   unfold F28.B6
   refine pif_cases (fun hb=>?_) fun hb=>?_
   ·have hil:i<l.length:=by have:=of_decide_eq_true hb;omega
    have hx:=hsr l[i] (List.getElem_mem hil)
    have hxl:(l[i]).toNat<es.length:=by omega
    obtain ⟨d1,d2,d3,d4,d5⟩:=hg.ed.ends es[(l[i]).toNat] (List.getElem_mem hxl)
    rw [← getD_of (d:=(0,0)) hxl] at d1 d2 d3 d4 d5
    unfold F28.B5
    refine (hc.le l12).rd (by omega) (by omega) ?_
    simp only [Int.toNat_natCast,getD_of hil]
    unfold F28.B4
    obtain ⟨b,o,hk,c1,c2⟩:=(h.le l12).idx hx.1 hx.2
    refine ld1_own o2 rfl (hk _ (ldI_mk c1 ⟨d1,ld1_own o2 rfl (hk _ (ldI_mk c2 ⟨d3,?_⟩))⟩))
    have pa:2^((es.getD (l[i]).toNat (0,0)).1).toNat<2^64:=Nat.pow_lt_pow_right (by decide) (by omega)
    have pb:2^((es.getD (l[i]).toNat (0,0)).2).toNat<2^64:=Nat.pow_lt_pow_right (by decide) (by omega)
    rw [one_shl d1 (by omega),one_shl d3 (by omega),bits_or pa pb,bits_or (setN_lt (he64 i)) (or_lt pa pb)]
    unfold F28.B3
    rw [wrap_id (by omega) (by omega)]
    refine ⟨⟨rfl,rfl,rfl,rfl,i+1,by omega,by omega,?_⟩,by simp;omega⟩
    rw [ends_take es hil,setN_append]
    simp only [List.foldl_cons,List.foldl_nil,Nat.or_assoc]
   ·have hil:i=l.length:=by have:=of_decide_eq_false hb;omega
    subst hil
    unfold F28.B1
    refine ldI_own o2 rfl ⟨by omega,?_⟩
    have k:=k _ l12
    rw [List.take_length]
    have pn:2^n.toNat<2^64:=Nat.pow_lt_pow_right (by decide) (by omega)
    have p1:1≤2^n.toNat:=Nat.one_le_two_pow
    rw [one_shl (by omega) (by omega),show ((2^n.toNat:Nat):Int)-1=((2^n.toNat-1:Nat):Int) by omega,u64_nat (by omega)]
    have key:(((setN (ends es l):Nat):Int)==((2^n.toNat-1:Nat):Int))=decide (IsM n es l):=by
     rw [Bool.eq_iff_iff,beq_iff_eq,decide_eq_true_iff]
     have hel:(ends es l).length=n.toNat:=by rw [ends_length];omega
     have on:=once_all hel (fun x hx=>by have:=her x hx;omega)
     constructor
     ·intro h
      have h:setN (ends es l)=2^n.toNat-1:=by omega
      refine ⟨hs,on.2 fun i hi=>?_,by omega⟩
      have:=setN_bit (fun x hx=>(her x hx).1) i
      rw [h,Nat.testBit_two_pow_sub_one,decide_eq_true hi] at this
      exact of_decide_eq_true this.symm
     ·intro h
      have:setN (ends es l)=2^n.toNat-1:=by
       apply Nat.eq_of_testBit_eq
       intro i
       rw [setN_bit (fun x hx=>(her x hx).1),Nat.testBit_two_pow_sub_one,decide_eq_decide]
       exact ⟨fun hm=>by have:=her _ hm;omega,fun hi=>on.1 h.nd i hi⟩
      rw [this]
    rw [key];exact k
theorem l04Is_ok {n:Int} (h:Edges H v es) (hl:es.length≤1048576) (hg:IsG n es) (hc:Ints H u l) (hcl:l.length≤1048576) (k:∀ G,H.le G→K (.bool (decide (IsM n es l))) G) :
 AC Tryz.prog T0 64 [.agg ⟨[.int .i64 n,v]⟩,u] H K:=by
 have n0:=hg.ed.lo;have n1:=hg.ed.hi;have n2:=hg.ed.even
 apply F64.ac
 unfold F64.B17
 refine newK_f (all_iv (edges_one' h)) fun H1 l1 n1' o1=>?_
 unfold F64.B16
 refine ldI_own o1 rfl (mkR_int (by omega) (by omega) (by decide) fun H2 l2 n2' o2=>?_)
 rw [rep_b] at o2
 unfold F64.B15 F64.L2
 refine ⟨fun x1 x2 x5 x6 G=>x1=u∧x2=H.length∧x5=.slice (some ⟨H1.length,0,none⟩) n.toNat (n.toNat+1)∧H1.le G∧∃ i:Nat,x6=i∧i≤l.length∧(∀ j,j<i→0≤l.getD j 0∧l.getD j 0≤es.length-1∧(0<j→l.getD (j-1) 0<l.getD j 0))∧(ends es (l.take i)).Nodup∧
  ∃ S:List Bool,S.length=n.toNat∧Own G H1.length 4 (LB S)∧∀ w,w<S.length→(S.getD w false=true↔(w:Int)∈ends es (l.take i)),
  fun _ _ _ x6 _=>l.length-x6.toNat,⟨rfl,rfl,rfl,l2,0,rfl,by omega,fun j hj=>absurd hj (by omega),by simp [ends],_,by simp,o2,fun w hw=>?_⟩,?_⟩
 ·have:(List.replicate n.toNat false).getD w false=false:=by simp only [List.getD,List.getElem?_replicate];split <;> rfl
  rw [this];simp [ends]
 ·rintro x1 x2 x5 x6 G ⟨rfl,rfl,rfl,hG,i,rfl,hi,hp,hnd,S,hS,oS,hm⟩
  have oG:=hG.2 _ _ o1
  have lG:=AHeap.le_trans l1 hG
  have hsr:∀ x∈l.take i,0≤x∧x<es.length:=fun x hx=>by
   obtain ⟨j,hj,rfl⟩:=List.getElem_of_mem hx
   rw [List.length_take] at hj
   have:=hp j (by omega)
   rw [getD_of (by omega:j<l.length)] at this
   rw [List.getElem_take];omega
  unfold F64.B14
  refine (hc.le lG).len (pif_cases (fun hb=>?_) fun hb=>?_)
  ·have hil:i<l.length:=by have:=of_decide_eq_true hb;omega
   have no:¬ (0≤l.getD i 0∧l.getD i 0≤es.length-1∧(0<i→l.getD (i-1) 0<l.getD i 0))→∀ N,F64.B12 K N G:=by
    intro hno N
    unfold F64.B12
    have k:=k _ lG
    rw [decide_eq_false (fun hi':IsM n es l=>hno (hi'.set i hil))] at k;exact k
   have go:(0≤l.getD i 0∧l.getD i 0≤es.length-1∧(0<i→l.getD (i-1) 0<l.getD i 0))→F64.B11 K (fun x1'' x2'' x5'' x6'' H''=>
    (x1''=x1∧x2''=H.length∧x5''=.slice (some ⟨H1.length,0,none⟩) n.toNat (n.toNat+1)∧H1.le H''∧∃ i:Nat,x6''=i∧i≤l.length∧(∀ j,j<i→0≤l.getD j 0∧l.getD j 0≤es.length-1∧(0<j→l.getD (j-1) 0<l.getD j 0))∧(ends es (l.take i)).Nodup∧
     ∃ S:List Bool,S.length=n.toNat∧Own H'' H1.length 4 (LB S)∧∀ w,w<S.length→(S.getD w false=true↔(w:Int)∈ends es (l.take i)))∧l.length-x6''.toNat<l.length-(i:Int).toNat) x1 H.length (.slice (some ⟨H1.length,0,none⟩) n.toNat (n.toNat+1)) i G:=by
    intro hy
    have hxl:(l.getD i 0).toNat<es.length:=by omega
    obtain ⟨d1,d2,d3,d4,d5⟩:=hg.ed.ends es[(l.getD i 0).toNat] (List.getElem_mem hxl)
    rw [← getD_of (d:=(0,0)) hxl] at d1 d2 d3 d4 d5
    unfold F64.B11 F64.L4
    let P:Nat→List Int:=fun m=>ends es (l.take i)++(if m=0 then [] else if m=1 then [en (es.getD (l.getD i 0).toNat (0,0)) 0] else [en (es.getD (l.getD i 0).toNat (0,0)) 0,en (es.getD (l.getD i 0).toNat (0,0)) 1])
    have PS:∀ m,m<2→P (m+1)=P m++[en (es.getD (l.getD i 0).toNat (0,0)) m]:=by
     intro m hm
     rcases (by omega:m=0∨m=1) with rfl|rfl <;> simp [P]
    have P2:P 2=ends es (l.take (i+1)):=by
     rw [ends_take es hil,← getD_of (d:=0) hil]
     simp [P,en]
    refine ⟨fun y1 y2 y5 y6 y7 G'=>y1=x1∧y2=H.length∧y5=.slice (some ⟨H1.length,0,none⟩) n.toNat (n.toNat+1)∧y6=i∧H1.le G'∧∃ m:Nat,y7=m∧m≤2∧(P m).Nodup∧∃ S:List Bool,S.length=n.toNat∧Own G' H1.length 4 (LB S)∧∀ w,w<S.length→(S.getD w false=true↔(w:Int)∈P m),
     fun _ _ _ _ y7 _=>2-y7.toNat,⟨rfl,rfl,rfl,rfl,hG,0,rfl,by omega,by simpa [P] using hnd,S,hS,oS,by simpa [P] using hm⟩,?_⟩
    rintro y1 y2 y5 y6 y7 G' ⟨rfl,rfl,rfl,rfl,hG',m,rfl,hm2,hnd,S,hS,oS,hm⟩
    have oG':=hG'.2 _ _ o1
    have lG':=AHeap.le_trans l1 hG'
    unfold F64.B10
    refine pif_cases (fun hb=>?_) fun hb=>?_
    ·have hm3:m<2:=by have:=of_decide_eq_true hb;omega
     unfold F64.B9
     refine ld1_own oG' rfl ((hc.le lG').rd (by omega) (by omega) ?_)
     simp only [Int.toNat_natCast]
     obtain ⟨b,o,hk,c1,c2⟩:=(h.le lG').idx hy.1 (by omega)
     refine hk _ (bndK_iff.2 ⟨by omega,by omega,ldI_mk (cell_en c1 c2 hm3) ?_⟩)
     have hv:0≤en (es.getD (l.getD i 0).toNat (0,0)) m∧en (es.getD (l.getD i 0).toNat (0,0)) m<n:=by unfold en;split <;> omega
     obtain ⟨w,hw⟩:∃ w:Nat,en (es.getD (l.getD i 0).toNat (0,0)) m=w:=⟨(en (es.getD (l.getD i 0).toNat (0,0)) m).toNat,by omega⟩
     rw [hw]
     have hwS:w<S.length:=by omega
     have rdS:(LB S)[w]?=some (.bool (S.getD w false)):=by rw [getD_of hwS];simp [hwS]
     unfold F64.B8
     refine own_idx (by omega) (by omega) (ld1_own oS rdS (asB_mk (pif_cases (fun hbit=>?_) fun hbit=>?_)))
     ·unfold F64.B7
      have k:=k _ lG'
      rw [decide_eq_false (fun hi':IsM n es l=>by
       have hin:=(hm w hwS).1 hbit
       have hsub:(ends es (l.take (i+1))).Nodup:=by
        have:=hi'.nd
        rw [← List.take_append_drop (i+1) l] at this
        unfold ends at this ⊢
        rw [List.flatMap_append] at this
        exact (List.nodup_append.1 this).1
       rw [← P2] at hsub
       have h3:(P (m+1)).Nodup:=by
        rcases (by omega:m=0∨m=1) with rfl|rfl
        ·rw [PS 1 (by omega)] at hsub;exact (List.nodup_append.1 hsub).1
        ·exact hsub
       rw [PS m hm3,hw] at h3
       exact (List.nodup_append.1 h3).2.2 _ hin _ (by simp) rfl)] at k
      exact k
     ·unfold F64.B6
      refine own_idx (by omega) (by omega) (stK_1 oS (by simpa using hwS) rfl fun G2 b2 o2=>?_)
      have o2:Own G2 H1.length 4 (LB (S.set w true)):=by simpa using o2
      unfold F64.B5
      rw [wrap_id (by omega) (by omega)]
      have hnin:¬ (w:Int)∈P m:=fun hin=>by rw [(hm w hwS).2 hin] at hbit;cases hbit
      refine ⟨⟨rfl,rfl,rfl,rfl,b2.le hG' (Nat.le_refl _),m+1,by omega,by omega,?_,_,by simpa using hS,o2,fun w' hw'=>?_⟩,by simp;omega⟩
      ·rw [PS m hm3,hw]
       exact List.nodup_append.2 ⟨hnd,by simp,fun a ha b hb=>by simp at hb;rintro rfl;subst hb;exact hnin ha⟩
      ·rw [List.length_set] at hw'
       rw [PS m hm3,hw,List.mem_append,List.mem_singleton]
       by_cases he:w=w'
       ·subst he
        simp [List.getD,hwS]
       ·have e1:(S.set w true).getD w' false=S.getD w' false:=by simp [List.getD,List.getElem?_set,he]
        rw [e1,hm w' hw']
        exact ⟨fun h=>.inl h,fun h=>h.elim id fun h=>absurd h (by omega)⟩
    ·have hm3:m=2:=by have:=of_decide_eq_false hb;omega
     subst hm3
     unfold F64.B3
     rw [wrap_id (by omega) (by omega)]
     rw [P2] at hnd hm
     refine ⟨⟨rfl,rfl,rfl,hG',i+1,by omega,by omega,fun j hj=>?_,hnd,S,hS,oS,hm⟩,by simp;omega⟩
     by_cases he:j=i
     ·subst he;exact hy
     ·exact hp j (by omega)
   unfold F64.B13
   refine (hc.le lG).rd (by omega) (by omega) (ld1_own oG rfl ((h.le lG).len (l01In_ok (asB_mk ?_))))
   simp only [Int.toNat_natCast]
   rw [wrap_id (x:=(es.length:Int)-1) (by omega) (by omega)]
   refine pif_cases (fun hs=>?_) fun hs=>?_
   ·rw [Bool.not_eq_true'] at hs
    exact no (fun hy=>of_decide_eq_false hs ⟨hy.1,hy.2.1⟩) _
   ·rw [Bool.not_eq_false'] at hs
    have hs:=of_decide_eq_true hs
    refine pif_cases (fun ht=>?_) fun ht=>?_
    ·have hi0:0<i:=by have:=of_decide_eq_true ht;omega
     rw [wrap_id (x:=(i:Int)-1) (by omega) (by omega)]
     refine (hc.le lG).rd (by omega) (by omega) ((hc.le lG).rd (by omega) (by omega) ?_)
     rw [show ((i:Int)-1).toNat=i-1 by omega]
     simp only [Int.toNat_natCast]
     refine pif_cases (fun hd=>?_) fun hd=>?_
     ·have:=of_decide_eq_true hd
      exact no (fun hy=>by have:=hy.2.2 hi0;omega) _
     ·have:=of_decide_eq_false hd
      exact go ⟨hs.1,hs.2,fun _=>by omega⟩
    ·have:=of_decide_eq_false ht
     exact go ⟨hs.1,hs.2,fun h=>by omega⟩
  ·have hil:i=l.length:=by have:=of_decide_eq_false hb;omega
   subst hil
   rw [List.take_length] at hnd hsr
   unfold F64.B1
   refine (hc.le lG).len (ldI_own oG rfl ?_)
   have k:=k _ lG
   rw [wrap_id (by omega) (by omega)]
   have e:((2*(l.length:Int))==n)=decide (IsM n es l):=by
    rw [Bool.eq_iff_iff,beq_iff_eq,decide_eq_true_iff]
    exact ⟨fun h=>⟨fun j hj=>hp j hj,hnd,h⟩,fun h=>h.len⟩
   rw [e];exact k
end Go.Proofs
namespace Go.Proofs
open Go.Abs

variable {H G:AHeap} {v u f:Value} {l m c D:List Int} {es fs:List (Int × Int)} {K:Value→AHeap→Prop} {A A':Nat→Prop} {B:Nat} {ls ms cs:List (List Int)}

theorem isM_one {n:Int} (hg:IsG n es) (hm:IsM n es l):OneAt n es l:=by
 have hr:∀ x∈l,0≤x∧x<es.length:=hm.set.range
 have hend:∀ x∈l,∃ a b:Nat,es.getD x.toNat (0,0)=((a:Int),(b:Int))∧a≠b∧(a:Int)<n∧(b:Int)<n:=by
  intro x hx
  have h:=hr x hx
  have hx':x.toNat<es.length:=by omega
  obtain ⟨d1,d2,d3,d4,d5⟩:=hg.ed.ends es[x.toNat] (List.getElem_mem hx')
  rw [← getD_of (d:=(0,0)) hx'] at d1 d2 d3 d4 d5
  refine ⟨(es.getD x.toNat (0,0)).1.toNat,(es.getD x.toNat (0,0)).2.toNat,?_,by omega,by omega,by omega⟩
  rw [Int.toNat_of_nonneg d1,Int.toNat_of_nonneg d3]
 intro x hx
 have hcnt:∀ L:List Int,(∀ i∈L,i∈l)→degC es L x=(ends es L).count (x:Int):=by
  intro L
  induction L with
  | nil=>intro _;rfl
  | cons i L ih=>
   intro hL
   obtain ⟨a,b,e1,e2,_,_⟩:=hend i (hL i (by simp))
   have ih:=ih fun j hj=>hL j (by simp [hj])
   have hi:=hr i (hL i (by simp))
   obtain ⟨k,rfl⟩:∃ k:Nat,i=k:=⟨i.toNat,by omega⟩
   rw [degC_cons,ih]
   rw [Int.toNat_natCast] at e1
   have:ends es ((k:Int)::L)=(a:Int)::(b:Int)::ends es L:=by
    unfold ends;rw [List.flatMap_cons,Int.toNat_natCast,e1];rfl
   rw [this,List.count_cons,List.count_cons,e1]
   unfold on
   have hab:(a:Int)≠(b:Int):=by omega
   simp only [Bool.or_eq_true,beq_iff_eq]
   by_cases h1:(a:Int)=(x:Int)
   ·have h2:¬ (b:Int)=(x:Int):=by omega
    rw [if_pos (.inl h1),if_neg h2,if_pos h1]
   ·by_cases h2:(b:Int)=(x:Int)
    ·rw [if_pos (.inr h2),if_pos h2,if_neg h1]
    ·rw [if_neg (by omega),if_neg h2,if_neg h1]
 rw [hcnt l fun i hi=>hi]
 have hmem:(x:Int)∈ends es l:=by
  refine nodup_sup (m:=upto n.toNat) hm.nd (fun y hy=>?_) ?_ _ ?_
  ·unfold ends at hy
   obtain ⟨i,hi,hy⟩:=List.mem_flatMap.1 hy
   obtain ⟨a,b,e1,e2,e3,e4⟩:=hend i hi
   rw [e1] at hy
   simp only [List.mem_cons,List.not_mem_nil,or_false] at hy
   unfold upto
   rcases hy with rfl|rfl
   ·exact List.mem_map.2 ⟨a,List.mem_range.2 (by omega),rfl⟩
   ·exact List.mem_map.2 ⟨b,List.mem_range.2 (by omega),rfl⟩
  ·have:=hm.len
   rw [ends_length]
   unfold upto
   rw [List.length_map,List.length_range];omega
  ·unfold upto;exact List.mem_map.2 ⟨x,List.mem_range.2 (by omega),rfl⟩
 have h1:=List.nodup_iff_count.1 hm.nd (x:Int)
 have h2:=List.count_pos_iff.2 hmem
 omega
noncomputable def ldr (es:List (Int × Int)) (p:Nat→Bool) (k:Nat):List Nat:=(List.range k).filter fun i=>p i&&cLeadB es p i
theorem ldr_succ (p:Nat→Bool) (k:Nat):ldr es p (k+1)=ldr es p k++if p k=true∧cLeadB es p k=true then [k] else []:=by
 unfold ldr
 rw [List.range_succ,List.filter_append]
 congr 1
 cases h1:p k <;> cases h2:cLeadB es p k <;> simp [h1,h2]
theorem cycW_ldr (p:Nat→Bool):∀ k,cycW es p k=(ldr es p k).map fun e=>wkL es p e (compL es p e).length
 | 0=>rfl
 | k+1=>by
  rw [cycW,ldr_succ,List.map_append,cycW_ldr p k]
  split <;> simp
theorem cycN_ldr (p:Nat→Bool):∀ k,cycN es p (filtB p k)=(ldr es p k).map (compN es p)
 | 0=>rfl
 | k+1=>by
  have ih:=cycN_ldr p k
  unfold cycN at ih ⊢
  rw [filtB_succ,List.filter_append,List.map_append,ih,ldr_succ,List.map_append]
  congr 1
  cases h1:p k with
  | false=>simp
  | true=>cases h2:cLeadB es p k <;> simp [h2]
theorem cLeadB_congr {p p':Nat→Bool} (h:∀ j,j<es.length→p j=p' j) {k:Nat} (hk:k≤es.length):cLeadB es p k=cLeadB es p' k:=by
 rw [Bool.eq_iff_iff,cLeadB_iff,cLeadB_iff]
 unfold cLead
 rw [eAdj_congr h]
 constructor
 ·intro g j h1 h2;exact g j h1 (by rw [h j (by omega)];exact h2)
 ·intro g j h1 h2;exact g j h1 (by rw [← h j (by omega)];exact h2)
theorem ldr_congr {p p':Nat→Bool} (h:∀ j,j<es.length→p j=p' j):∀ k,k≤es.length→ldr es p k=ldr es p' k
 | 0,_=>rfl
 | k+1,hk=>by rw [ldr_succ,ldr_succ,ldr_congr h k (by omega),h k (by omega),cLeadB_congr h (by omega)]
theorem compN_congr {p p':Nat→Bool} (h:∀ j,j<es.length→p j=p' j) (e:Nat):compN es p e=compN es p' e:=by unfold compN compL;rw [eAdj_congr h]
theorem left2_ok {n:Int} (h:Edges H v es) (hg:IsG n es) (hS:IsS l es.length)
 (k:∀ v' G,H.le G→Fresh H.length G v' 45 1 (LU ((ldr es (leftP l) es.length).map (compN es (leftP l))))→K v' G):AC Tryz.prog T0 31 [.agg ⟨[.int .i64 n,v]⟩,.int .u64 (setN l:Nat)] H K:=by
 have h30:es.length≤30:=by have:=hg.ed.len;have:=hg.ed.hi;omega
 have hs:setN l<2^64:=setN_lt fun x hx=>by have:=hS.range x hx;omega
 have hp:(2:Nat)^es.length<2^61:=Nat.pow_lt_pow_right (by decide) (by omega)
 have hp64:(2:Nat)^61<2^64:=by decide
 have hmp:=Nat.two_pow_pos es.length
 apply F31.ac
 unfold F31.B2
 refine newK_f (all_iv (edges_one' h)) fun H1 l1 _ o1=>?_
 unfold F31.B1
 refine ldI_own o1 rfl (ld1_own o1 rfl (ldI_own o1 rfl (ld1_own o1 rfl (every_ok (h.le l1) (by omega) fun H2 l2=>asI_mk ⟨l2,?_⟩))))
 rw [bits_andnot (by omega) hs]
 obtain ⟨X,hX⟩:∃ X,X=(2^es.length-1)&&&(2^64-(setN l+1)):=⟨_,rfl⟩
 rw [← hX]
 have hXl:X<2^64:=by rw [hX];exact Nat.lt_of_le_of_lt Nat.and_le_left (by omega)
 have hXb:∀ j,X.testBit j=(decide (j<es.length)&&leftP l j):=fun j=>by rw [hX,andnot_bit (by omega) hs,Nat.testBit_two_pow_sub_one];rfl
 have hcg:∀ j,j<es.length→(fun j=>X.testBit j) j=leftP l j:=fun j hj=>by show X.testBit j=_;rw [hXb];simp [hj]
 have l12:=AHeap.le_trans l1 l2
 refine cycles_ok (h.le l12) hg hXl (fun j hj=>by rw [hXb,Bool.and_eq_true] at hj;exact of_decide_eq_true hj.1) fun v' G lG fG=>?_
 refine k v' G (AHeap.le_trans l12 lG) ?_
 rw [cycN_ldr,ldr_congr hcg _ (Nat.le_refl _),List.map_congr_left fun e _=>compN_congr hcg e] at fG
 exact fG.less l12.1
theorem mem_ldr {p:Nat→Bool} {k e:Nat}:e∈ldr es p k↔e<k∧p e=true∧cLeadB es p e=true:=by
 unfold ldr;rw [List.mem_filter,List.mem_range,Bool.and_eq_true]
def pnt (O:List Int) (c:List Int):Nat→List Int
 | 0=>O
 | t+1=>(pnt O c t).set (c.getD t 0).toNat (1+((t%2:Nat):Int))
def pntAll (O:List Int) (cs:List (List Int)):Nat→List Int
 | 0=>O
 | i+1=>pnt (pntAll O cs i) (cs.getD i []) (cs.getD i []).length
theorem pnt_length (O c:List Int):∀ t,(pnt O c t).length=O.length
 | 0=>rfl
 | t+1=>by rw [pnt,List.length_set,pnt_length O c t]
theorem pntAll_length (O:List Int) (cs:List (List Int)):∀ i,(pntAll O cs i).length=O.length
 | 0=>rfl
 | i+1=>by rw [pntAll,pnt_length,pntAll_length O cs i]
noncomputable def coCode (n:Int) (es:List (Int × Int)) (l:List Int):Int:=if IsG n es then (if IsM n es l then (if 0<oddN es l then 4 else 0) else 2) else 1
noncomputable def coList (n:Int) (es:List (Int × Int)) (l:List Int):List Int:=if coCode n es l=0 then pntAll (List.replicate es.length 0) (cycW es (leftP l) es.length) (cycW es (leftP l) es.length).length else []
theorem coList_small {n:Int} (hl:es.length≤1048576):(coList n es l).length≤1048576:=by
 unfold coList
 split
 ·rw [pntAll_length,List.length_replicate];exact hl
 ·simp
theorem RowsF.monoB (h:RowsF A B H v ls) (ha:∀ b,A b→b<B→A' b):RowsF A' B H v ls:=by
 obtain ⟨vs,h1,h2,h3,h4⟩:=h
 refine ⟨vs,h1,h2,fun b hbk=>⟨ha b (h3 b hbk).1 (h3 b hbk).2,(h3 b hbk).2⟩,fun i hi=>?_⟩
 obtain ⟨w,g1,g2,g3⟩:=h4 i hi
 exact ⟨w,g1,g2,fun b hbk=>⟨ha b (g3 b hbk).1 (g3 b hbk).2.1,(g3 b hbk).2⟩⟩
theorem cycW_row {n:Int} (hg:IsG n es) (h2:∀ x:Nat,(x:Int)<n→degB es (leftP l) x=2) {i:Nat} (hi:i<(cycW es (leftP l) es.length).length):((cycW es (leftP l) es.length).getD i []).length≤es.length∧∀ x∈(cycW es (leftP l) es.length).getD i [],0≤x∧x<es.length:=by
 have hm:=List.getElem_mem hi
 rw [getD_of hi]
 generalize (cycW es (leftP l) es.length)[i]=c at hm
 rw [cycW_ldr,List.mem_map] at hm
 obtain ⟨e,he,rfl⟩:=hm
 obtain ⟨h1,h3,h4⟩:=mem_ldr.1 he
 refine ⟨by rw [wkL_length];exact filtB_length _ _,fun x hx=>?_⟩
 obtain ⟨a0,w,hW⟩:=wk_walk hg (fun x hx _=>h2 x hx) h1 h3 _ (Nat.le_refl _)
 obtain ⟨j,rfl,h5,_⟩:=hW.mem x hx
 omega
theorem l04Code_ok {n:Int} (h:Edges H v es) (hl:es.length≤1048576) (hc:Ints H u l) (hcl:l.length≤1048576) (k:∀ G,H.le G→K (.int .i64 (if IsG n es then (if IsM n es l then 0 else 2) else 1)) G):AC Tryz.prog T0 33 [.agg ⟨[.int .i64 n,v]⟩,u] H K:=by
 apply F33.ac
 unfold F33.B6
 refine newK_f (all_iv (edges_one' h)) fun H1 l1 _ o1=>?_
 unfold F33.B5
 refine ldI_own o1 rfl (ld1_own o1 rfl (l01Is_ok (h.le l1) hl fun H2 l2=>asB_mk (pif_cases (fun hs=>?_) fun hs=>?_)))
 ·have hg:¬ IsG n es:=by simpa using hs
  unfold F33.B2
  have k:=k _ (AHeap.le_trans l1 l2)
  rw [if_neg hg] at k;exact k
 ·have hg:IsG n es:=by simpa using hs
  have l12:=AHeap.le_trans l1 l2
  unfold F33.B4
  refine ldI_own (o1.le l2) rfl (ld1_own (o1.le l2) rfl (l04Is_ok (h.le l12) hl hg (hc.le l12) hcl fun H3 l3=>asB_mk (pif_cases (fun hs=>?_) fun hs=>?_)))
  ·have hm:¬ IsM n es l:=by simpa using hs
   unfold F33.B3
   have k:=k _ (AHeap.le_trans l12 l3)
   rw [if_pos hg,if_neg hm] at k;exact k
  ·have hm:IsM n es l:=by simpa using hs
   unfold F33.B1
   have k:=k _ (AHeap.le_trans l12 l3)
   rw [if_pos hg,if_pos hm] at k;exact k
theorem isMatching2_ok {n:Int} (h:Edges H v es) (hl:es.length≤1048576) (hc:Ints H u l) (hcl:l.length≤1048576) (k:∀ b G,H.le G→(IsG n es→b=decide (IsM n es l))→K (.bool b) G) :
 AC Tryz.prog T0 28 [.agg ⟨[.int .i64 n,v]⟩,u] H K:=by
 by_cases hg:IsG n es
 ·exact isMatching_ok h hl hg hc hcl fun G hG=>k _ G hG fun _=>rfl
 ·apply F28.ac
  unfold F28.B11
  refine newK_f (all_iv (edges_one' h)) fun H1 l1 n1' o1=>?_
  unfold F28.B10
  refine ldI_own o1 rfl (ld1_own o1 rfl (IsGraph_ok (h.le l1) hl fun H2 l2=>asB_mk (pif_t (by rw [decide_eq_false hg];rfl) ?_)))
  unfold F28.B9
  exact k _ _ (AHeap.le_trans l1 l2) fun h=>absurd h hg
theorem tmod_col (x:Nat) (hx:x<1000000):IntKind.i64.wrap (1+Int.tmod ((x:Nat):Int) 2)=1+((x%2:Nat):Int):=by
 rw [tmod2,wrap_id (by omega) (by omega)]
theorem specColouring_ok {n:Int} (h:Edges H v es) (hl:es.length≤1048576) (hc:Ints H u l) (hcl:l.length≤1048576)
 (k:∀ v' G,H.le G→Fresh H.length G v' 2 1 (LI (coList n es l))→K (.tuple ⟨[v',.int .i64 (coCode n es l)]⟩) G):AC Tryz.prog T0 13 [.agg ⟨[.int .i64 n,v]⟩,u] H K:=by
 apply F13.ac
 unfold F13.B17
 refine newK_f (all_iv (edges_one' h)) fun H1 l1 _ o1=>?_
 unfold F13.B16
 refine ldI_own o1 rfl (ld1_own o1 rfl (l04Code_ok (h.le l1) hl (hc.le l1) hcl fun H2 l2=>asI_mk ?_))
 have l12:=AHeap.le_trans l1 l2
 have o2:=o1.le l2
 unfold F13.B15
 by_cases hok:IsG n es∧IsM n es l
 rotate_left
 ·have hne:(if IsG n es then (if IsM n es l then 0 else 2) else 1:Int)=coCode n es l∧coCode n es l≠0:=by
   unfold coCode
   by_cases hg:IsG n es
   ·have hm:¬ IsM n es l:=fun hm=>hok ⟨hg,hm⟩
    rw [if_pos hg,if_neg hm,if_pos hg,if_neg hm];exact ⟨rfl,by decide⟩
   ·rw [if_neg hg,if_neg hg];exact ⟨rfl,by decide⟩
  rw [hne.1]
  refine pif_t (bne_iff_ne.2 hne.2) ?_
  unfold F13.B14
  have k:=k (.slice none 0 0) _ l12
  unfold coList at k
  rw [if_neg hne.2] at k
  exact k (.inl ⟨rfl,.inl rfl⟩)
 obtain ⟨hg,hm⟩:=hok
 rw [if_pos hg,if_pos hm]
 refine pif_f rfl ?_
 have n0:=hg.ed.lo;have n1:=hg.ed.hi
 have h30:es.length≤30:=by have:=hg.ed.len;omega
 have hS:=hm.set
 have ho:=isM_one hg hm
 have hdeg:∀ x:Nat,(x:Int)<n→degB es (leftP l) x=2:=fun x hx=>left_deg hg hS ho hx
 have hb1:=l12.1
 obtain ⟨cs,hcs⟩:∃ cs,cs=cycW es (leftP l) es.length:=⟨_,rfl⟩
 have hcl2:cs.length≤30:=by rw [hcs];exact Nat.le_trans (cycW_length _ _) h30
 have hrow:∀ i,i<cs.length→(cs.getD i []).length≤es.length∧∀ x∈cs.getD i [],0≤x∧x<es.length:=fun i hi=>by rw [hcs] at hi ⊢;exact cycW_row hg hdeg hi
 have hodd:oddSum (cs.map List.length)=oddN es l:=by rw [hcs,cycW_lens];rfl
 have main:∀ G q b8,H.le G→b8≥H.length→RowsF (fun b=>b≠b8) G.length G q cs→Own G b8 2 (LI (List.replicate es.length 0))→F13.B12 K q (.slice (some ⟨b8,0,none⟩) es.length (es.length+1)) G:=by
  intro G q b8 hG hb8 hR oO
  unfold F13.B12
  refine l04Odd_ok hR (by omega) (asI_mk ?_)
  rw [hodd]
  refine pif_cases (fun hb=>?_) fun hb=>?_
  ·have h0:0<oddN es l:=by have:=of_decide_eq_true hb;omega
   have e:coCode n es l=4:=by unfold coCode;rw [if_pos hg,if_pos hm,if_pos h0]
   unfold F13.B11
   have k:=k (.slice none 0 0) _ hG
   unfold coList at k
   rw [e] at k
   exact k (.inl ⟨rfl,.inl rfl⟩)
  have h0:¬ 0<oddN es l:=by have:=of_decide_eq_false hb;omega
  have e:coCode n es l=0:=by unfold coCode;rw [if_pos hg,if_pos hm,if_neg h0]
  unfold F13.B10 F13.L2
  refine ⟨fun x7 x8 x9 G'=>q=x7∧.slice (some ⟨b8,0,none⟩) es.length (es.length+1)=x8∧H.le G'∧∃ i:Nat,x9=i∧i≤cs.length∧∃ B',RowsF (fun b=>b≠b8) B' G' q cs∧Own G' b8 2 (LI (pntAll (List.replicate es.length 0) cs i)),fun _ _ x9 _=>cs.length-x9.toNat,⟨rfl,rfl,hG,0,rfl,by omega,_,hR,oO⟩,?_⟩
  clear hR oO hG
  rintro x7 x8 x9 G1 ⟨rfl,rfl,hG1,i,rfl,hi,B',hR,oO⟩
  unfold F13.B9
  refine hR.len (pif_cases (fun hb=>?_) fun hb=>?_)
  ·have hil:i<cs.length:=by have:=of_decide_eq_true hb;omega
   obtain ⟨hr1,hr2⟩:=hrow i hil
   unfold F13.B8 F13.L4
   refine ⟨fun x7 x8 x9 x10 G'=>q=x7∧.slice (some ⟨b8,0,none⟩) es.length (es.length+1)=x8∧(i:Int)=x9∧H.le G'∧∃ t:Nat,x10=t∧t≤(cs.getD i []).length∧RowsF (fun b=>b≠b8) B' G' q cs∧Own G' b8 2 (LI (pnt (pntAll (List.replicate es.length 0) cs i) (cs.getD i []) t)),fun _ _ _ x10 _=>(cs.getD i []).length-x10.toNat,⟨rfl,rfl,rfl,hG1,0,rfl,by omega,hR,oO⟩,?_⟩
   clear hR oO hG1
   rintro x7 x8 x9 x10 G2 ⟨rfl,rfl,rfl,hG2,t,rfl,ht,hR,oO⟩
   unfold F13.B7
   refine hR.row hil fun w hw=>hw.ints.len (pif_cases (fun hb=>?_) fun hb=>?_)
   ·have htl:t<(cs.getD i []).length:=by have:=of_decide_eq_true hb;omega
    have hx:=hr2 _ (List.getElem_mem htl)
    rw [← getD_of (d:=0) htl] at hx
    have hpl:(pnt (pntAll (List.replicate es.length 0) cs i) (cs.getD i []) t).length=es.length:=by rw [pnt_length,pntAll_length,List.length_replicate]
    unfold F13.B6
    refine hR.row hil fun w hw=>hw.ints.rd (by omega) (by omega) ?_
    rw [Int.toNat_natCast]
    refine own_idx (by omega) (by omega) (stK_1 oO (by rw [List.length_map,hpl];omega) rfl fun G3 b3 o3=>?_)
    rw [tmod_col t (by omega),← List.map_set] at o3
    unfold F13.B5
    rw [wrap_id (by omega) (by omega)]
    exact ⟨⟨rfl,rfl,rfl,b3.le hG2 hb8,t+1,by omega,by omega,hR.but b3 (fun h=>h rfl),o3⟩,by show (cs.getD i []).length-((t:Int)+1).toNat<(cs.getD i []).length-(t:Int).toNat;omega⟩
   ·have htl:t=(cs.getD i []).length:=by have:=of_decide_eq_false hb;omega
    subst htl
    unfold F13.B3
    rw [wrap_id (by omega) (by omega)]
    exact ⟨⟨rfl,rfl,hG2,i+1,by omega,by omega,B',hR,oO⟩,by show cs.length-((i:Int)+1).toNat<cs.length-(i:Int).toNat;omega⟩
  ·have hil:i=cs.length:=by have:=of_decide_eq_false hb;omega
   subst hil
   unfold F13.B1
   have k:=k (.slice (some ⟨b8,0,none⟩) es.length (es.length+1)) _ hG1
   unfold coList at k
   rw [e,if_pos rfl,← hcs] at k
   exact k (.inr ⟨b8,es.length,hb8,rfl,oO,by rw [List.length_map,pntAll_length,List.length_replicate];omega⟩)
 unfold F13.B13
 refine ldI_own o2 rfl (ld1_own o2 rfl (ld1_own o2 rfl ((h.le l12).len ⟨?_,?_⟩)))
 ·refine l04CyclesW_ok (h.le l12) hg (hc.le l12) hS ho fun q H3 l3 hR=>⟨ld1_own (o2.le l3) rfl ⟨rfl,rfl⟩,mkR_int (by omega) (by omega) (by decide) fun H4 l4 n4 o4=>?_⟩
  rw [← hcs] at hR
  rw [Int.toNat_natCast,rep_one] at o4
  rw [Int.toNat_natCast]
  have hl3:=l3.1
  exact main H4 q _ (AHeap.le_trans l12 (AHeap.le_trans l3 l4)) (by omega) (((hR.le l4).monoB fun b _ hb=>by omega).mono (fun _ h=>h) l4.1) o4
 ·refine mkR_int (by omega) (by omega) (by decide) fun H3 l3 n3 o3=>l04CyclesW_ok (h.le (AHeap.le_trans l12 l3)) hg (hc.le (AHeap.le_trans l12 l3)) hS ho fun q H4 l4 hR=>⟨ld1_own ((o2.le l3).le l4) rfl ⟨rfl,rfl⟩,?_⟩
  rw [← hcs] at hR
  rw [Int.toNat_natCast,rep_one] at o3
  rw [Int.toNat_natCast]
  exact main H4 q _ (AHeap.le_trans l12 (AHeap.le_trans l3 l4)) (by omega) (hR.monoB fun b hb _=>by omega) (o3.le l4)
end Go.Proofs
namespace Go.Proofs
open Go.Abs

variable {H G:AHeap} {v u f:Value} {l m c D S:List Int} {es fs:List (Int × Int)} {K:Value→AHeap→Prop} {cs:List (List Int)}

end Go.Proofs
namespace Go.Proofs
open Go.Abs

variable {H G:AHeap} {v u f:Value} {l m c D:List Int} {es fs:List (Int × Int)} {K:Value→AHeap→Prop} {cs:List (List Int)}

theorem LD_get:∀ (ds:List (Nat × Bool)) (i:Nat) (hi:i<ds.length),(LD ds)[i*2]?=some (.int .i64 ((ds.getD i (0,false)).1:Nat))∧(LD ds)[i*2+1]?=some (.bool (ds.getD i (0,false)).2)
 | d::ds,0,_=>⟨rfl,rfl⟩
 | d::ds,i+1,hi=>by
  have ih:=LD_get ds i (by simpa using hi)
  have e:LD (d::ds)=.int .i64 (d.1:Nat)::.bool d.2::LD ds:=rfl
  rw [e,show (i+1)*2=i*2+1+1 by omega]
  exact ih
theorem LD_idx {mm:Nat} {t:TypeId} {ds:List (Nat × Bool)} (h:Fresh mm G v t 2 (LD ds)) {i:Nat} (hi:i<ds.length):∃ b o,(∀ K:Nat→Nat→Prop,K b o→idxK v (i:Int) 2 K)∧G.cell b o=some (.int .i64 ((ds.getD i (0,false)).1:Nat))∧G.cell b (o+1)=some (.bool (ds.getD i (0,false)).2):=by
 have hl:=LD_length ds
 obtain ⟨g1,g2⟩:=LD_get ds i hi
 rcases h with ⟨h0,_⟩|⟨b,n,_,rfl,h3,h4⟩
 ·rw [h0] at hl;simp at hl;omega
 ·refine ⟨b,i*2,fun K k=>⟨by omega,by omega,by simpa using k⟩,?_,?_⟩
  ·rw [cell_own h3];exact g1
  ·rw [cell_own h3];exact g2
theorem implColouring_ok {n:Int} (h:Edges H v es) (hl:es.length≤1048576) (hc:Ints H u l) (hcl:l.length≤1048576)
 (k:∀ v' G,H.le G→Fresh H.length G v' 2 1 (LI (coList n es l))→K (.tuple ⟨[v',.int .i64 (coCode n es l)]⟩) G):AC Tryz.prog T0 12 [.agg ⟨[.int .i64 n,v]⟩,u] H K:=by
 apply F12.ac
 unfold F12.B20
 refine newK_f (all_iv (edges_one' h)) fun H1 l1 _ o1=>?_
 unfold F12.B19
 refine ldI_own o1 rfl (ld1_own o1 rfl (ldI_own o1 rfl (ld1_own o1 rfl (isMatching2_ok (h.le l1) hl (hc.le l1) hcl fun b H2 l2 hb=>asB_mk ⟨l2,graphCode_ok (b:=b) (h.le (AHeap.le_trans l1 l2)) hl fun H3 l3=>asI_mk ?_⟩))))
 have l13:=AHeap.le_trans (AHeap.le_trans l1 l2) l3
 have o3:=(o1.le l2).le l3
 unfold F12.B18
 by_cases hok:IsG n es∧IsM n es l
 rotate_left
 ·have hne:(if IsG n es then (if b then 0 else 2) else 1:Int)=coCode n es l∧coCode n es l≠0:=by
   unfold coCode
   by_cases hg:IsG n es
   ·have hm:¬ IsM n es l:=fun hm=>hok ⟨hg,hm⟩
    have hbf:b=false:=by rw [hb hg];exact decide_eq_false hm
    rw [if_pos hg,if_pos hg,if_neg hm,hbf];exact ⟨rfl,by decide⟩
   ·rw [if_neg hg,if_neg hg];exact ⟨rfl,by decide⟩
  rw [hne.1]
  refine pif_t (bne_iff_ne.2 hne.2) ?_
  unfold F12.B17
  have k:=k (.slice none 0 0) _ l13
  unfold coList at k
  rw [if_neg hne.2] at k
  exact k (.inl ⟨rfl,.inl rfl⟩)
 obtain ⟨hg,hm⟩:=hok
 have hbt:b=true:=by rw [hb hg];exact decide_eq_true hm
 rw [if_pos hg,hbt]
 refine pif_f rfl ?_
 have n0:=hg.ed.lo;have n1:=hg.ed.hi
 have h30:es.length≤30:=by have:=hg.ed.len;omega
 have hS:=hm.set
 have ho:=isM_one hg hm
 have hdeg:∀ x:Nat,(x:Int)<n→degB es (leftP l) x=2:=fun x hx=>left_deg hg hS ho hx
 obtain ⟨cs,hcs⟩:∃ cs,cs=cycW es (leftP l) es.length:=⟨_,rfl⟩
 obtain ⟨L,hL⟩:∃ L,L=ldr es (leftP l) es.length:=⟨_,rfl⟩
 have hcsL:cs=L.map fun e=>wkL es (leftP l) e (compL es (leftP l) e).length:=by rw [hcs,hL,cycW_ldr]
 have hLl:L.length≤30:=by
  have:cs.length≤30:=by rw [hcs];exact Nat.le_trans (cycW_length _ _) h30
  rw [hcsL,List.length_map] at this;exact this
 have hcsl:cs.length=L.length:=by rw [hcsL,List.length_map]
 unfold F12.B16
 refine setOf_ok (hc.le l13) (by omega) (fun x hx=>by have:=hS.range x hx;omega) (asI_mk ?_)
 unfold F12.B15
 refine ldI_own o3 rfl (ld1_own o3 rfl (odd_ok (h.le l13) hg hS fun H4 l4=>asI_mk (pif_cases (fun hb=>?_) fun hb=>?_)))
 ·have h0:0<oddN es l:=by have:=of_decide_eq_true hb;omega
  have e:coCode n es l=4:=by unfold coCode;rw [if_pos hg,if_pos hm,if_pos h0]
  unfold F12.B14
  have k:=k (.slice none 0 0) _ (AHeap.le_trans l13 l4)
  unfold coList at k
  rw [e] at k
  exact k (.inl ⟨rfl,.inl rfl⟩)
 have h0:¬ 0<oddN es l:=by have:=of_decide_eq_false hb;omega
 have e:coCode n es l=0:=by unfold coCode;rw [if_pos hg,if_pos hm,if_neg h0]
 have l14:=AHeap.le_trans l13 l4
 have o4:=o3.le l4
 have hb4:=l14.1
 unfold F12.B13
 refine ld1_own o4 rfl ((h.le l14).len (mkR_int (by omega) (by omega) (by decide) fun H5 l5 n5 o5=>?_))
 rw [Int.toNat_natCast,rep_one] at o5
 rw [Int.toNat_natCast]
 obtain ⟨b8,hb8⟩:∃ b8,b8=H4.length:=⟨_,rfl⟩
 rw [← hb8] at o5 ⊢
 have l15:=AHeap.le_trans l14 l5
 have o15:=o4.le l5
 unfold F12.B12
 refine ldI_own o15 rfl (ld1_own o15 rfl (left2_ok (h.le l15) hg hS fun q H6 l6 f6=>?_))
 rw [← hL] at f6
 have l46:=AHeap.le_trans l5 l6
 have hl6:=l6.1
 refine f6.sl.len (by decide) (n:=L.length) (by simp) ?_
 unfold F12.L2
 refine ⟨fun x2 x8 x33 x34 x35 G=>H.length=x2∧.slice (some ⟨b8,0,none⟩) es.length (es.length+1)=x8∧q=x33∧(L.length:Int)=x34∧H4.le G∧Fresh H5.length G q 45 1 (LU (L.map (compN es (leftP l))))∧∃ i:Nat,x35=i∧i≤L.length∧Own G b8 2 (LI (pntAll (List.replicate es.length 0) cs i)),fun _ _ _ _ x35 _=>L.length-x35.toNat,⟨rfl,rfl,rfl,rfl,l46,f6,0,rfl,by omega,o5.le l6⟩,?_⟩
 clear f6 o5 l5 l6 o15 l15
 rintro x2 x8 x33 x34 x35 G ⟨rfl,rfl,rfl,rfl,hG,hF,i,rfl,hi,oO⟩
 have lG:=AHeap.le_trans l14 hG
 have oG:=o4.le hG
 unfold F12.B11
 refine pif_cases (fun hb=>?_) fun hb=>?_
 ·have hil:i<L.length:=by have:=of_decide_eq_true hb;omega
  have hmem:L[i]∈ldr es (leftP l) es.length:=by rw [← hL];exact List.getElem_mem hil
  obtain ⟨e1,e2,e3⟩:=mem_ldr.1 hmem
  obtain ⟨ei,hei⟩:∃ ei,ei=L[i]:=⟨_,rfl⟩
  rw [← hei] at e1 e2 e3
  have hci:cs.getD i []=wkL es (leftP l) ei (compL es (leftP l) ei).length:=by
   rw [getD_of (by omega),hei];simp only [hcsL,List.getElem_map]
  obtain ⟨T,hT⟩:∃ T,T=(compL es (leftP l) ei).length:=⟨_,rfl⟩
  rw [← hT] at hci
  have hTl:T≤es.length:=by rw [hT];exact filtB_length _ _
  unfold F12.B10
  refine Sl_rdI hF.sl (by omega) (by simp;omega) (by rw [Int.toNat_natCast];exact LU_get (by simpa using hil)) ?_
  rw [show (L.map (compN es (leftP l))).getD i 0=compN es (leftP l) ei by rw [getD_of (by simpa using hil),hei];simp]
  unfold F12.B9
  refine ldI_own oG rfl (ld1_own oG rfl (around_ok (p:=leftP l) (e:=ei) (h.le lG) hg (fun x hx _=>hdeg x hx) e1 e2 (fun j=>compN_bit) (fun j hj hr=>?_) fun r G2 l2' f2=>?_))
  ·exact cLeadB_iff.1 e3 j hj (eRch_in hr ⟨e1,e2⟩).2 (eRch_symm hr ⟨e1,e2⟩)
  rw [← hT] at f2
  have hGb:b8<G.length:=oO.lt
  refine f2.sl.len (by decide) (n:=T) (by rw [LD_length,dirL_length]) ?_
  unfold F12.L4
  refine ⟨fun x2 x8 x33 x34 x35 x41 x42 x43 G'=>H.length=x2∧.slice (some ⟨b8,0,none⟩) es.length (es.length+1)=x8∧q=x33∧(L.length:Int)=x34∧(i:Int)=x35∧r=x41∧(T:Int)=x42∧H4.le G'∧Fresh H5.length G' q 45 1 (LU (L.map (compN es (leftP l))))∧Fresh G.length G' r 61 2 (LD (dirL es (leftP l) ei T))∧∃ t:Nat,x43=t∧t≤T∧Own G' b8 2 (LI (pnt (pntAll (List.replicate es.length 0) cs i) (cs.getD i []) t)),
   fun _ _ _ _ _ _ _ x43 _=>T-x43.toNat,⟨rfl,rfl,rfl,rfl,rfl,rfl,rfl,AHeap.le_trans hG l2',hF.le l2',f2,0,rfl,by omega,oO.le l2'⟩,?_⟩
  clear f2 oO hF hG oG lG
  rintro x2 x8 x33 x34 x35 x41 x42 x43 G3 ⟨rfl,rfl,rfl,rfl,rfl,rfl,rfl,hG3,hF,f2,t,rfl,ht,oO⟩
  unfold F12.B8
  refine pif_cases (fun hb=>?_) fun hb=>?_
  ·have htl:t<T:=by have:=of_decide_eq_true hb;omega
   obtain ⟨a0,w,hW⟩:=wk_walk hg (fun x hx _=>hdeg x hx) e1 e2 t (by omega)
   have hwl:=hW.lt
   obtain ⟨db,do',dk,dc1,dc2⟩:=LD_idx f2 (i:=t) (by rw [dirL_length];exact htl)
   have hd1:((dirL es (leftP l) ei T).getD t (0,false)).1=(wk es (leftP l) ei t).1:=by
    rw [← dirT_fst];unfold dirL;simp [List.getD,htl]
   rw [hd1] at dc1
   have hct:(cs.getD i []).getD t 0=((wk es (leftP l) ei t).1:Int):=by
    rw [hci];unfold wkL;simp [List.getD,htl]
   have hpl:(pnt (pntAll (List.replicate es.length 0) cs i) (cs.getD i []) t).length=es.length:=by rw [pnt_length,pntAll_length,List.length_replicate]
   unfold F12.B7
   refine dk _ (ldI_mk dc1 (ld1_mk dc2 (asB_mk (newK_f rfl fun G4 l4' n4 o4'=>stK_f o4' (by simp) (by simp [Value.oneCell']) rfl fun G5 b5 o5'=>?_))))
   have l35:G3.le G5:=b5.le l4' (Nat.le_refl _)
   have oO5:=oO.le l35
   unfold F12.B6
   refine ldI_own o5' rfl (own_idx (by omega) (by omega) (stK_1 oO5 (by rw [List.length_map,hpl];omega) rfl fun G6 b6 o6=>?_))
   rw [tmod_col t (by omega),← List.map_set,Int.toNat_natCast] at o6
   unfold F12.B5
   rw [wrap_id (by omega) (by omega)]
   refine ⟨⟨rfl,rfl,rfl,rfl,rfl,rfl,rfl,b6.le (AHeap.le_trans hG3 l35) (by omega),(hF.le l35).but b6 (by omega),(f2.le l35).but b6 hGb,t+1,by omega,by omega,?_⟩,by show T-((t:Int)+1).toNat<T-(t:Int).toNat;omega⟩
   rw [pnt,hct,Int.toNat_natCast];exact o6
  ·have htl:t=T:=by have:=of_decide_eq_false hb;omega
   subst htl
   unfold F12.B3
   rw [wrap_id (by omega) (by omega)]
   refine ⟨⟨rfl,rfl,rfl,rfl,hG3,hF,i+1,by omega,by omega,?_⟩,by show L.length-((i:Int)+1).toNat<L.length-(i:Int).toNat;omega⟩
   rw [pntAll]
   have:(cs.getD i []).length=t:=by rw [hci,wkL_length]
   rw [this];exact oO
 ·have hil:i=L.length:=by have:=of_decide_eq_false hb;omega
  subst hil
  unfold F12.B1
  have k:=k (.slice (some ⟨b8,0,none⟩) es.length (es.length+1)) _ lG
  unfold coList at k
  rw [e,if_pos rfl,← hcs,hcsl] at k
  exact k (.inr ⟨b8,es.length,by omega,rfl,oO,by rw [List.length_map,pntAll_length,List.length_replicate];omega⟩)
end Go.Proofs
namespace Go.Proofs
open Go.Abs

variable {H G:AHeap} {v u f:Value} {l m c D S:List Int} {es fs:List (Int × Int)} {K:Value→AHeap→Prop} {cs:List (List Int)}

theorem cut_hi {b i:Nat} {K:Value→Prop} (o:Own H b 2 (LI S)) (hi:i≤S.length) (k:∀ v',Ints H v' (S.take i)→K v'):sliceK H 2 (.slice (some ⟨b,0,none⟩) S.length (S.length+1)) none (some (.int .i64 (i:Int))) 1 K:=by
 refine ⟨⟨_,_,o,by simp⟩,by simp,by simp,by simp;omega,?_⟩
 refine k _ (.inr ⟨_,_,by simp [Nat.min_eq_left hi];exact ⟨rfl,rfl⟩,.inr ⟨rfl,fun q x hx=>?_⟩⟩)
 rw [cell_own o]
 have:=List.getElem?_eq_some_iff.1 hx
 obtain ⟨hq,he⟩:=this
 rw [List.length_take] at hq
 rw [List.getElem_take] at he
 show (LI S)[0+0*1+q]?=_
 rw [show 0+0*1+q=q by omega,LI_get,List.getElem?_eq_getElem (by omega),he];rfl
end Go.Proofs
namespace Go.Proofs
open Go.Abs

variable {H G Hb:AHeap} {v u f w:Value} {l m:List Int} {K:Value→AHeap→Prop} {bs:Nat}

theorem l01From_ok (hB:Byts H v l) (hl:l.length≤4096) (k:∀ G,H.le G→Src H H.length G→K (.pointer (some ⟨H.length,0,none⟩)) G):AC Tryz.prog T0 20 [v] H K:=by
 apply F20.ac
 unfold F20.B8 F20.B7
 refine hB.len (pif_t hB.one (newK_f (by simp [hB.one];exact ⟨rfl,rfl⟩) fun H1 l1 n1 o1=>?_))
 unfold F20.B6 F20.L2
 refine ⟨fun x0 x3 x4 G=>v=x0∧.pointer (some ⟨H.length,0,none⟩)=x3∧∃ i:Nat,x4=i∧i≤l.length∧Src H H.length G,fun _ _ x4 _=>l.length-x4.toNat,⟨rfl,rfl,0,rfl,by omega,l1,Nat.le_refl _,v,l,0,_,hB,hl,o1,by omega,by omega⟩,?_⟩
 rintro x0 x3 x4 G ⟨rfl,rfl,i,rfl,hi,hs⟩
 obtain ⟨h1,h2,cv,l',a,x,hB',h4,ho,h6,h7⟩:=id hs
 have fin:F20.B1 K (.pointer (some ⟨H.length,0,none⟩)) G:=by
  unfold F20.B1
  exact k G h1 hs
 unfold F20.B5
 refine (hB.le h1).len (pif_cases (fun hb=>pif_cases (fun hc=>?_) fun _=>fin) fun _=>fin)
 have hlt:i<l.length:=by have:=of_decide_eq_true hb;omega
 unfold F20.B4
 refine nilP_mk (asP_mk (ldI_own ho rfl ((hB.le h1).rd (by omega) (by omega) fun z z0 z1=>nilP_mk (asP_mk (stK_1 ho (by simp) rfl fun G2 b2 o2=>?_)))))
 unfold F20.B3
 rw [wrap_id (by omega) (by omega)]
 exact ⟨⟨rfl,rfl,i+1,by omega,by omega,Src.put h1 h2 hB' h4 b2 o2 h6 h7⟩,by simp;omega⟩
theorem Src.lt (h:Src Hb bs H):bs<H.length:=by
 obtain ⟨_,_,cv,l,a,x,_,_,ho,_⟩:=h
 exact ho.lt
theorem sl_lo {b N r:Nat} {cs:List Value} {K:Value→Prop} (o:Own G b 2 cs) (hl:N≤cs.length) (hr:r≤N) (k:K (.slice (some ⟨b,r,none⟩) (N-r) (N-r+1))):sliceK G 2 (.slice (some ⟨b,0,none⟩) N (N+1)) (some (.int .i64 (r:Nat))) none 1 K:=
 ⟨⟨_,_,o,by simpa using hl⟩,by simp,by simp;omega,by simp,by simpa using k⟩
theorem l01DrawOrder_ok {n:Int} (hs:Src Hb bs H) (h1:n≤1000) (k:∀ v' D G,Kb bs H G→Src Hb bs G→Fresh H.length G v' 2 1 (LI D)→D.length=n.toNat→(∀ x∈D,0≤x∧x<n)→K v' G) :
 AC Tryz.prog T0 81 [.pointer (some ⟨bs,0,none⟩),.int .i64 n] H K:=by
 have hbs:=hs.lt
 apply F81.ac
 unfold F81.B9 F81.B8
 refine newK_f rfl fun H1 l1 n1 o1=>?_
 unfold F81.B7 F81.L2
 refine ⟨fun x0 x1 x5 x6 G=>.pointer (some ⟨bs,0,none⟩)=x0∧n=x1∧Kb bs H G∧Src Hb bs G∧∃ (i b:Nat) (D:List Int),x6=i∧i≤n.toNat∧H.length≤b∧x5=.slice (some ⟨b,0,none⟩) i (i+1)∧D.length=i∧Own G b 2 (LI D)∧∀ x∈D,0≤x∧x<n,fun _ _ _ x6 _=>n.toNat-x6.toNat,
  ⟨rfl,rfl,.of_le l1,hs.le l1,0,H.length,[],rfl,by omega,Nat.le_refl _,rfl,rfl,o1,by simp⟩,?_⟩
 rintro x0 x1 x5 x6 G ⟨rfl,rfl,kb,s,i,b,D,rfl,hi,hb,rfl,hD,ho,hr⟩
 unfold F81.B6
 refine pif_cases (fun hc=>?_) fun hc=>?_
 ·have hlt:i<n.toNat:=by have:=of_decide_eq_true hc;omega
  unfold F81.B5
  rw [wrap_id (by omega) (by omega)]
  refine l01Next_ok s fun r G1 k1 s1 r0 r1 _=>asI_mk ?_
  obtain ⟨r,rfl⟩:∃ r':Nat,r=r':=⟨r.toNat,by omega⟩
  have hri:r≤i:=by have:=r1 (by omega);omega
  have o1:Own G1 b 2 (LI D):=k1.old b _ (by omega) ho
  have kb1:=kb.trans k1
  have lo:∀ {G':AHeap} {K:Value→Prop},Own G' b 2 (LI D)→K (.slice (some ⟨b,r,none⟩) (i-r) (i-r+1))→sliceK G' 2 (.slice (some ⟨b,0,none⟩) i (i+1)) (some (.int .i64 (r:Nat))) none 1 K:=fun o k=>sl_lo o (by simp [hD]) hri k
  have hi1:sliceK G1 2 (.slice (some ⟨b,0,none⟩) i (i+1)) none (some (.int .i64 (r:Nat))) 1 (fun v1=>Ints G1 v1 (D.take r)):=by
   have:=cut_hi (K:=fun v'=>Ints G1 v' (D.take r)) (i:=r) o1 (by omega) fun v' hv'=>hv'
   rwa [hD] at this
  have fin:∀ v12 G13,G1.le G13→Fresh H.length G13 v12 2 1 (LI (D.take r++[(i:Int)]++D.drop r))→F81.B3 K (fun z0 z1 z5 z6 G'=>(.pointer (some ⟨bs,0,none⟩)=z0∧n=z1∧Kb bs H G'∧Src Hb bs G'∧∃ (i b:Nat) (D:List Int),z6=i∧i≤n.toNat∧H.length≤b∧z5=.slice (some ⟨b,0,none⟩) i (i+1)∧D.length=i∧Own G' b 2 (LI D)∧∀ x∈D,0≤x∧x<n)∧n.toNat-z6.toNat<n.toNat-(i:Int).toNat) (.pointer (some ⟨bs,0,none⟩)) n v12 i G13:=by
   intro v12 G13 l13 f13
   unfold F81.B3
   rw [wrap_id (by omega) (by omega)]
   have hlen:(D.take r++[(i:Int)]++D.drop r).length=i+1:=by simp;omega
   rcases f13 with ⟨h0,_⟩|⟨b',c,hb',rfl,o',hc'⟩
   ·have:=congrArg List.length h0
    rw [List.length_map,hlen,List.length_nil] at this;omega
   ·have hcc:c=i+1:=by rw [List.length_map,hlen] at hc';omega
    subst hcc
    refine ⟨⟨rfl,rfl,kb1.trans (.of_le l13),s1.le l13,i+1,b',_,by omega,by omega,hb',rfl,hlen,o',fun x hx=>?_⟩,by simp;omega⟩
    rcases List.mem_append.1 hx with hx|hx
    ·rcases List.mem_append.1 hx with hx|hx
     ·exact hr x (List.mem_of_mem_take hx)
     ·rw [List.mem_singleton.1 hx];omega
    ·exact hr x (List.mem_of_mem_drop hx)
  have cells:∀ {G':AHeap},Own G' b 2 (LI D)→cellsAt G' (.slice (some ⟨b,r,none⟩) (i-r) (i-r+1)) 1 (i-r) (LI (D.drop r)):=fun {G'} o=>by
   refine ⟨by simp [hD],_,_,rfl,.inr ⟨b,r,rfl,fun q x hx=>?_⟩⟩
   rw [cell_own o]
   rw [List.getElem?_map,List.getElem?_drop] at hx
   rw [List.getElem?_map];exact hx
  have hG1:H.length≤G1.length:=kb1.len
  have last:∀ v9 G10 m0,G1.le G10→G1.length≤m0→m0≤G10.length→Fresh m0 G10 v9 2 1 (LI (D.take r++[(i:Int)]))→apK T0 2 G10 v9 (.slice (some ⟨b,r,none⟩) (i-r) (i-r+1)) (fun v12 H13=>F81.B3 K (fun z0 z1 z5 z6 G'=>(.pointer (some ⟨bs,0,none⟩)=z0∧n=z1∧Kb bs H G'∧Src Hb bs G'∧∃ (i b:Nat) (D:List Int),z6=i∧i≤n.toNat∧H.length≤b∧z5=.slice (some ⟨b,0,none⟩) i (i+1)∧D.length=i∧Own G' b 2 (LI D)∧∀ x∈D,0≤x∧x<n)∧n.toNat-z6.toNat<n.toNat-(i:Int).toNat) (.pointer (some ⟨bs,0,none⟩)) n v12 i H13):=by
   intro v9 G10 m0 l10 hm1 hm' f10
   have hm:H.length≤m0:=Nat.le_trans hG1 hm1
   refine f10.sl.app E_int (by decide) hm' (cells (o1.le l10)) (by simp;omega) (fun h0=>?_) fun v12 G13 k13 _ _ f13=>?_
   ·have hd:D.drop r=[]:=List.map_eq_nil_iff.1 h0
    refine fin v9 G10 l10 ?_
    rw [hd,List.append_nil]
    exact f10.less hm
   ·refine fin v12 G13 (k13.le l10 hm1) ?_
    have:=f13.less hm
    simpa using this
  unfold F81.B4
  obtain ⟨a1,a2,a3,a4,a5⟩:=hi1
  refine ⟨a1,a2,a3,a4,lo o1 ⟨l01Own_ok a5 (by rw [List.length_take];omega) fun v3 G4 l4 f4=>⟨lo (o1.le l4) ⟨rfl,rfl⟩,?_⟩,newK_f rfl fun G15 l15 n15 o15=>l01Own_ok (a5.le l15) (by rw [List.length_take];omega) fun v16 G17 l17 f17=>⟨lo (o1.le (AHeap.le_trans l15 l17)) ⟨rfl,rfl⟩,?_⟩⟩⟩
  ·refine f4.sl.pushN E_int (by decide) l4.1 (n:=1) (ys:=[.int .i64 (i:Nat)]) rfl rfl (by simp;omega) (by simp) fun v9 G10 k10 _ _ f10=>?_
   have l10:=k10.le l4 (Nat.le_refl _)
   exact ⟨lo (o1.le l10) ⟨rfl,rfl⟩,last v9 G10 G1.length l10 (Nat.le_refl _) l10.1 (by simpa using f10)⟩
  ·have hcs:cellsAt G17 (.slice (some ⟨G1.length,0,none⟩) 1 (1+1)) 1 1 [.int .i64 (i:Nat)]:=cellsAt_row (o15.le l17) rfl
   refine f17.sl.app E_int (by decide) l17.1 hcs (by simp;omega) (fun h=>by cases h) fun v20 G21 k21 _ _ f21=>?_
   have l21:=AHeap.le_trans l15 (k21.le l17 (Nat.le_refl _))
   exact ⟨lo (o1.le l21) ⟨rfl,rfl⟩,last v20 G21 G15.length l21 l15.1 (k21.le l17 (Nat.le_refl _)).1 (by simpa using f21)⟩
 ·have hie:i=n.toNat:=by have:=of_decide_eq_false hc;omega
  subst hie
  unfold F81.B1
  exact k _ D G kb s (.inr ⟨b,n.toNat,hb,rfl,ho,by simp [hD]⟩) hD hr
end Go.Proofs
namespace Go.Proofs
open Go.Abs

variable {B H G G':AHeap} {b N:Nat} {L S M:List (Int × Int)} {cmp:Value} {c:(Int × Int)→(Int × Int)→Int} {dom:(Int × Int)→Prop} {K:Value→AHeap→Prop}

end Go.Proofs
namespace Go.Proofs
open Go.Abs

variable {B H G G':AHeap} {b N:Nat} {L S M:List (Int × Int)} {cmp:Value} {c:(Int × Int)→(Int × Int)→Int} {dom:(Int × Int)→Prop} {K:Value→AHeap→Prop}

end Go.Proofs
namespace Go.Proofs
open Go.Abs

variable {B H G G':AHeap} {b N:Nat} {L S M:List (Int × Int)} {cmp:Value} {c:(Int × Int)→(Int × Int)→Int} {dom:(Int × Int)→Prop} {K:Value→AHeap→Prop}

end Go.Proofs
namespace Go.Proofs
open Go.Abs

variable {B H G G':AHeap} {b N:Nat} {L S M:List (Int × Int)} {cmp:Value} {c:(Int × Int)→(Int × Int)→Int} {dom:(Int × Int)→Prop} {K:Value→AHeap→Prop}

end Go.Proofs
namespace Go.Proofs
open Go.Abs

variable {H G:AHeap} {v u f w:Value} {es fs S:List (Int × Int)} {K:Value→AHeap→Prop}

section
variable {α:Type} {d:α} {c:α→α→Int} {S:List α} {j:Nat} {x:α}
theorem insG_sorted (hc:Cmp c) (hS:S.Pairwise (LeC c)) (hj:j≤S.length) (h1:∀ q,j≤q→q<S.length→c x (S.getD q d)<0) (h2:j=0∨¬ c x (S.getD (j-1) d)<0):(S.take j++([x]++S.drop j)).Pairwise (LeC c):=by
 have hS':=hS
 rw [← List.take_append_drop j S,List.pairwise_append] at hS'
 obtain ⟨p1,p2,p3⟩:=hS'
 rw [List.pairwise_append]
 refine ⟨p1,?_,fun a ha b hb=>?_⟩
 ·rw [List.singleton_append,List.pairwise_cons]
  refine ⟨fun b hb=>?_,p2⟩
  obtain ⟨i,hi,rfl⟩:=List.getElem_of_mem hb
  rw [List.length_drop] at hi
  have:=h1 (j+i) (by omega) (by omega)
  rw [getD_of (by omega)] at this
  rw [List.getElem_drop];exact hc.lt this
 ·rw [List.singleton_append,List.mem_cons] at hb
  rcases hb with rfl|hb
  ·obtain ⟨i,hi,rfl⟩:=List.getElem_of_mem ha
   rw [List.length_take] at hi
   rw [List.getElem_take]
   rcases h2 with h2|h2
   ·omega
   ·rw [getD_of (by omega)] at h2
    by_cases e:i=j-1
    ·subst e;exact h2
    ·exact hc.tr _ _ _ ((List.pairwise_iff_getElem.1 hS) i (j-1) (by omega) (by omega) (by omega)) h2
  ·exact p3 a ha b hb
theorem insG_perm:(S.take j++([x]++S.drop j)).Perm (S++[x]):=by
 have h1:(S.take j++([x]++S.drop j)).Perm (S.take j++(S.drop j++[x])):=List.Perm.append_left _ List.perm_append_comm
 have e:S.take j++(S.drop j++[x])=S++[x]:=by rw [← List.append_assoc,List.take_append_drop]
 rw [← e];exact h1
end
theorem cmpE_ord:Cmp cmpE:=⟨fun x y z h1 h2=>by
 rw [cmpE_neg] at *;unfold ltE at *;omega,fun x y h=>by rw [cmpE_neg] at *;unfold ltE at *;omega⟩
def nrmE (e:Int × Int):Int × Int:=(if e.2<e.1 then e.2 else e.1,if e.2>e.1 then e.2 else e.1)
noncomputable def srtE (l:List (Int × Int)):List (Int × Int):=l.mergeSort fun a b=>decide (LeC cmpE a b)
theorem srtE_perm (l:List (Int × Int)):(srtE l).Perm l:=List.mergeSort_perm _ _
theorem srtE_eq {l:List (Int × Int)} (h1:S.Pairwise (LeC cmpE)) (h2:S.Perm l):S=srtE l:=by
 refine sorted_same (le:=LeC cmpE) (fun a b h1 h2=>?_) h1 ?_ (h2.trans (srtE_perm l).symm)
 ·have e1:¬ ltE b a:=fun h=>h1 ((cmpE_neg _ _).2 h)
  have e2:¬ ltE a b:=fun h=>h2 ((cmpE_neg _ _).2 h)
  unfold ltE at e1 e2
  exact Prod.ext (by omega) (by omega)
 ·have:=List.pairwise_mergeSort (le:=fun a b=>decide (LeC cmpE a b)) (fun a b c h1 h2=>by
   rw [decide_eq_true_iff] at *;exact cmpE_ord.tr _ _ _ h1 h2) (fun a b=>by
   by_cases h:cmpE a b<0
   ·rw [Bool.or_eq_true];left;exact decide_eq_true (cmpE_ord.lt h)
   ·rw [Bool.or_eq_true];right;exact decide_eq_true h) l
  exact this.imp fun h=>of_decide_eq_true h
theorem srtE_length (l:List (Int × Int)):(srtE l).length=l.length:=(srtE_perm l).length_eq
theorem fresh_neE {m0:Nat} (h:Fresh m0 H v 84 2 (LE es)) (hl:0<es.length):∃ b,m0≤b∧v=.slice (some ⟨b,0,none⟩) es.length (es.length+1)∧Own H b 84 (LE es):=by
 rcases h with ⟨h0,_⟩|⟨b,n,hb,rfl,h3,h4⟩
 ·have:=congrArg List.length h0;rw [LE_length,List.length_nil] at this;omega
 ·rw [LE_length] at h4
  have hn:n=es.length:=by omega
  subst hn
  exact ⟨b,hb,rfl,h3⟩
theorem own_idx2 {b n:Nat} {x:Int} {K:Nat→Nat→Prop} (h0:0≤x) (h1:x<n) (k:K b (x.toNat*2)):idxK (.slice (some ⟨b,0,none⟩) n (n+1)) x 2 K:=⟨h0,h1,by simpa using k⟩
theorem own_edge {b n j:Nat} {K:Int→Int→Prop} (o:Own H b 84 (LE S)) (hn:S.length=n) (hj:j<n) (k:K (S.getD j (0,0)).1 (S.getD j (0,0)).2):idxK (.slice (some ⟨b,0,none⟩) n (n+1)) (j:Int) 2 (fun b o=>ldI .i64 H b o fun p=>ldI .i64 H b (o+1) fun q=>K p q):=by
 obtain ⟨g1,g2⟩:=LE_get S j (S.getD j (0,0)) (by rw [getD_of (by omega)];exact List.getElem?_eq_getElem (by omega))
 refine own_idx2 (by omega) (by omega) ?_
 rw [Int.toNat_natCast]
 exact ldI_own o g1 (ldI_own o g2 k)
theorem set_edge {b n j:Nat} {x:Int × Int} {K:AHeap→Prop} (o:Own H b 84 (LE S)) (hn:S.length=n) (hj:j<n) (k:∀ G,But b H G→Own G b 84 (LE (S.set j x))→K G) :
 idxK (.slice (some ⟨b,0,none⟩) n (n+1)) (j:Int) 2 (fun b o=>stK H b o [.int .i64 x.1,.int .i64 x.2] K):=by
 have LL:=LE_length S
 refine own_idx2 (by omega) (by omega) (stK_f (new:=LE (S.set j x)) o (by rw [LL,Int.toNat_natCast];show j*2+2≤_;omega) (by simp [Value.oneCell']) (by rw [Int.toNat_natCast];exact LE_set S x (by omega)) k)
theorem l01Sort_ok (h:Edges H v es) (hl:es.length≤1048576) (k:∀ v' G,H.le G→Fresh H.length G v' 84 2 (LE (srtE (es.map nrmE)))→K v' G):AC Tryz.prog T0 118 [v] H K:=by
 apply F118.ac
 unfold F118.B14 F118.B13
 refine newK_f rfl fun H1 l1 n1 o1=>?_
 unfold F118.B12 F118.L2
 refine ⟨fun x0 x3 x4 G=>v=x0∧H.le G∧∃ (i bo:Nat) (S:List (Int × Int)),x4=i∧i≤es.length∧H.length≤bo∧x3=.slice (some ⟨bo,0,none⟩) S.length (S.length+1)∧Own G bo 84 (LE S)∧S.Pairwise (LeC cmpE)∧S.Perm ((es.take i).map nrmE),
  fun _ _ x4 _=>es.length-x4.toNat,⟨rfl,l1,0,H.length,[],rfl,by omega,Nat.le_refl _,rfl,o1,List.Pairwise.nil,by simp⟩,?_⟩
 rintro x0 x3 x4 G ⟨rfl,lG,i,bo,S,rfl,hi,hbo,rfl,oS,sS,pS⟩
 have hSl:S.length=i:=by have:=pS.length_eq;rw [List.length_map,List.length_take] at this;omega
 unfold F118.B11
 refine (h.le lG).len (pif_cases (fun hb=>?_) fun hb=>?_)
 rotate_left
 ·have hil:i=es.length:=by have:=of_decide_eq_false hb;omega
  subst hil
  rw [List.take_length] at pS
  unfold F118.B1
  refine k _ G lG (.inr ⟨bo,S.length,hbo,rfl,?_,?_⟩)
  ·rw [← srtE_eq sS pS];exact oS
  ·rw [← srtE_eq sS pS,LE_length]
 have hil:i<es.length:=by have:=of_decide_eq_true hb;omega
 obtain ⟨eb,eo,hk,c1,c2⟩:=(h.le lG).idx (show (0:Int)≤i by omega) (by omega)
 simp only [Int.toNat_natCast] at c1 c2
 obtain ⟨e,he⟩:∃ e,e=nrmE (es.getD i (0,0)):=⟨_,rfl⟩
 have hbl:=oS.lt
 unfold F118.B10
 refine hk _ (ldI_mk c1 (hk _ (ldI_mk c2 (hk _ (ldI_mk c1 (hk _ (ldI_mk c2 (lenK_of (newK_f rfl fun G1 l1' n1' o1'=>stK_f (new:=[.int .i64 e.1,.int .i64 e.2]) o1' (by simp) (by simp [Value.oneCell']) (by rw [he];rfl) fun G2 b2 o2=>?_)))))))))
 have l2:G.le G2:=b2.le l1' (Nat.le_refl _)
 have lG2:=AHeap.le_trans lG l2
 have oS2:=oS.le l2
 unfold F118.B9
 refine ldI_own o2 rfl (ldI_own o2 rfl ?_)
 refine Sl.pushN (m:=H.length) E_edge (by decide) (Fresh.sl (.inr ⟨bo,S.length,hbo,rfl,oS2,LE_length S⟩)) lG2.1 (n:=1) (ys:=[.int .i64 e.1,.int .i64 e.2]) rfl rfl (by rw [LE_length];simp;omega) (by simp) fun v' G3 k3 ot3 nb3 f3=>?_
 have f3:Fresh H.length G3 v' 84 2 (LE (S++[e])):=by rw [LE_append];exact f3
 obtain ⟨b3,hb3,rfl,o3⟩:=fresh_neE f3 (by simp)
 have hn3:G2.length≤b3:=nb3 b3 rfl
 have lG3:H.le G3:=k3.le lG2 (Nat.le_refl _)
 have ox3:Own G3 G.length 84 [.int .i64 e.1,.int .i64 e.2]:=ot3 _ _ (fun hv=>by cases hv;omega) o2
 have hlen3:(S++[e]).length=S.length+1:=by simp
 rw [hlen3]
 unfold F118.L5
 refine ⟨fun x0 x3 x4 x5 x6 G'=>v=x0∧.slice (some ⟨b3,0,none⟩) (S.length+1) (S.length+1+1)=x3∧(i:Int)=x4∧G.length=x5∧H.le G'∧Own G' G.length 84 [.int .i64 e.1,.int .i64 e.2]∧∃ (j:Nat) (g:Int × Int),x6=j∧j≤S.length∧Own G' b3 84 (LE (S.take j++([g]++S.drop j)))∧∀ q,j≤q→q<S.length→cmpE e (S.getD q (0,0))<0,
  fun _ _ _ _ x6 _=>x6.toNat,⟨rfl,rfl,rfl,rfl,lG3,ox3,S.length,e,rfl,Nat.le_refl _,by rw [List.take_length,List.drop_length,List.append_nil];exact o3,fun q h1 h2=>by omega⟩,?_⟩
 clear ox3 o3 f3 ot3 nb3 lG3 k3
 rintro x0 x3 x4 x5 x6 G' ⟨rfl,rfl,rfl,rfl,lG',oe,j,g,rfl,hj,oj,hgt⟩
 have hbG:G.length<b3:=by have:=b2.len;omega
 obtain ⟨T,hT⟩:∃ T,T=S.take j++([g]++S.drop j):=⟨_,rfl⟩
 have hTl:T.length=S.length+1:=by rw [hT];simp [Nat.min_eq_left hj];omega
 have hTj:∀ x,T.set j x=S.take j++([x]++S.drop j):=fun x=>by
  rw [hT,List.set_append_right _ _ (by simp;omega)]
  simp [Nat.min_eq_left hj]
 rw [← hT] at oj
 have next:(j=0∨¬ cmpE e (S.getD (j-1) (0,0))<0)→∀ G',H.le G'→Own G' b3 84 (LE T)→Own G' G.length 84 [.int .i64 e.1,.int .i64 e.2]→F118.B4 K (fun z0 z3 z4 G''=>(v=z0∧H.le G''∧∃ (i bo:Nat) (S:List (Int × Int)),z4=i∧i≤es.length∧H.length≤bo∧z3=.slice (some ⟨bo,0,none⟩) S.length (S.length+1)∧Own G'' bo 84 (LE S)∧S.Pairwise (LeC cmpE)∧S.Perm ((es.take i).map nrmE))∧es.length-z4.toNat<es.length-(i:Int).toNat) v (.slice (some ⟨b3,0,none⟩) (S.length+1) (S.length+1+1)) i G.length j G':=by
  intro hst G' lG' oj oe
  unfold F118.B4
  refine ldI_own oe rfl (ldI_own oe rfl (set_edge (x:=e) oj hTl (by omega) fun G5 b5 o5=>?_))
  rw [hTj] at o5
  unfold F118.B3
  rw [wrap_id (by omega) (by omega)]
  have hlen:(S.take j++([e]++S.drop j)).length=S.length+1:=by simp [Nat.min_eq_left hj];omega
  refine ⟨⟨rfl,b5.le lG' hb3,i+1,b3,_,by omega,by omega,hb3,by rw [hlen],o5,insG_sorted (d:=(0,0)) cmpE_ord sS hj hgt hst,insG_perm.trans ?_⟩,by omega⟩
  rw [List.take_succ_eq_append_getElem hil,List.map_append,List.map_singleton,he,getD_of hil]
  exact pS.append_right _
 unfold F118.B8
 refine pif_cases (fun hb=>?_) fun hb=>next (.inl (by have:=of_decide_eq_false hb;omega)) G' lG' oj oe
 have hj0:0<j:=by have:=of_decide_eq_true hb;omega
 have hT1:T.getD (j-1) (0,0)=S.getD (j-1) (0,0):=by
  rw [hT]
  simp [List.getD,List.getElem?_append_left (show j-1<(S.take j).length by simp;omega),List.getElem?_take_of_lt (show j-1<j by omega)]
 have w1:IntKind.i64.wrap ((j:Int)-1)=((j-1:Nat):Int):=wr (by omega) (by omega)
 rw [w1]
 refine ldI_own oe rfl (ldI_own oe rfl (own_edge (j:=j-1) oj hTl (by omega) ?_))
 rw [hT1]
 refine l01Before_ok (a:=e) (b:=S.getD (j-1) (0,0)) fun G5 l5=>asB_mk (pif_cases (fun hq=>?_) fun hq=>?_)
 ·have hlt:=(cmpE_neg _ _).2 (of_decide_eq_true hq)
  have oj5:=oj.le l5
  unfold F118.B7
  rw [w1]
  refine own_edge (j:=j-1) oj5 hTl (by omega) ?_
  rw [hT1]
  refine set_edge (x:=S.getD (j-1) (0,0)) oj5 hTl (by omega) fun G6 b6 o6=>?_
  rw [hTj] at o6
  unfold F118.B6
  rw [w1]
  refine ⟨⟨rfl,rfl,rfl,rfl,b6.le (AHeap.le_trans lG' l5) hb3,b6.own (oe.le l5) (by omega),j-1,S.getD (j-1) (0,0),rfl,by omega,?_,fun q h1 h2=>?_⟩,?_⟩
  ·have e1:S.take (j-1)++([S.getD (j-1) (0,0)]++S.drop (j-1))=S.take j++([S.getD (j-1) (0,0)]++S.drop j):=by
    obtain ⟨j',rfl⟩:∃ j',j=j'+1:=⟨j-1,by omega⟩
    rw [Nat.add_sub_cancel,getD_of (show j'<S.length by omega),List.drop_eq_getElem_cons (show j'<S.length by omega),List.take_succ_eq_append_getElem (show j'<S.length by omega),List.append_assoc]
    rfl
   rw [e1];exact o6
  ·by_cases e2:q=j-1
   ·subst e2;exact hlt
   ·exact hgt q (by omega) h2
  ·show ((j-1:Nat):Int).toNat<((j:Nat):Int).toNat
   omega
 ·exact next (.inr fun hc=>of_decide_eq_false hq ((cmpE_neg _ _).1 hc)) G5 (AHeap.le_trans lG' l5) (oj.le l5) (oe.le l5)
theorem fresh_one {m0:Nat} (h:Fresh m0 H v 84 2 (LE es)):v.oneCell'=true:=edges_one' h.edges
theorem l01Made_ok {n:Int} (h:Edges H v es) (hl:es.length≤1048576) (k:∀ v' G,H.le G→Fresh H.length G v' 84 2 (LE (srtE (es.map nrmE)))→K (.agg ⟨[.int .i64 n,v']⟩) G):AC Tryz.prog T0 105 [.int .i64 n,v] H K:=by
 apply F105.ac
 unfold F105.B2
 refine newK_f rfl fun H1 l1 n1 o1=>?_
 unfold F105.B1
 refine l01Sort_ok (h.le l1) hl fun v' G l2 f2=>pif_t (fresh_one f2) (stK_f (new:=[.int .i64 n,v']) (o1.le l2) (by simp) (mem_iv (fresh_one f2)) rfl fun G3 b3 o3=>ldI_own o3 rfl (ld1_own o3 rfl ?_))
 have hl1:=l1.1
 exact k v' G3 (b3.le (AHeap.le_trans l1 l2) (Nat.le_refl _)) ((f2.but b3 (by omega)).less hl1)
end Go.Proofs
namespace Go.Proofs
open Go.Abs

variable {H G:AHeap} {v u f:Value} {l m c:List Int} {es fs:List (Int × Int)} {K:Value→AHeap→Prop} {A A':Nat→Prop} {B B':Nat} {ls ms:List (List Int)}

end Go.Proofs
namespace Go.Proofs
open Go.Abs

variable {H G:AHeap} {v u f:Value} {l m c:List Int} {es fs:List (Int × Int)} {K:Value→AHeap→Prop} {A A':Nat→Prop} {B B':Nat} {ls ms:List (List Int)}

end Go.Proofs
namespace Go.Proofs
open Go.Abs

variable {H G:AHeap} {v u f w:Value} {es fs S:List (Int × Int)} {l:List Int} {K:Value→AHeap→Prop}

theorem push_edge {m0:Nat} {x:Int × Int} (hF:Fresh m0 H v 84 2 (LE es)) (hm:m0≤H.length) (hs:es.length<1000000)
 (k:∀ v' G,Keep m0 H G→Oth v H G→(∀ b,bk v'=some b→H.length≤b)→Fresh m0 G v' 84 2 (LE (es++[x]))→K v' G) :
 newK H [.int .i64 x.1,.int .i64 x.2] 84 (fun b1 H2=>apK T0 84 H2 v (.slice (some ⟨b1,0,none⟩) 1 (1+1)) K):=by
 refine hF.sl.pushN E_edge (by decide) hm (n:=1) (ys:=[.int .i64 x.1,.int .i64 x.2]) rfl rfl (by rw [LE_length];simp;omega) (by simp) fun v' G k1 ot nb f=>k v' G k1 ot nb ?_
 rw [LE_append];exact f
theorem edges_cells (h:Edges H v es):cellsAt H v 2 es.length (LE es):=by
 rcases h with ⟨rfl,rfl⟩|⟨a,c,rfl,h⟩
 ·exact ⟨rfl,none,0,rfl,.inl rfl⟩
 ·refine ⟨LE_length es,some a,c,rfl,?_⟩
  rcases h with rfl|⟨h1,h2⟩
  ·exact .inl rfl
  ·refine .inr ⟨a.block,a.off,by cases a;simp at h1;subst h1;rfl,fun i x hx=>?_⟩
   have hi:=lt_of_get hx
   rw [LE_length] at hi
   obtain ⟨g1,g2⟩:=h2 (i/2) (es.getD (i/2) (0,0)) (by rw [getD_of (by omega)];exact List.getElem?_eq_getElem (by omega))
   obtain ⟨q1,q2⟩:=LE_get es (i/2) (es.getD (i/2) (0,0)) (by rw [getD_of (by omega)];exact List.getElem?_eq_getElem (by omega))
   rcases (by omega:i=i/2*2∨i=i/2*2+1) with e|e
   ·rw [e,q1] at hx
    rw [e];cases hx;exact g1
   ·rw [e,q2] at hx
    rw [e];cases hx;exact g2
theorem app_edges {m0:Nat} (hs:Sl m0 H v 84 2 (LE es)) (hm:m0≤H.length) (h:Edges H u fs) (h0:0<fs.length) (hl:es.length+fs.length≤1000000) (k:∀ v' G,Keep m0 H G→Oth v H G→Fresh m0 G v' 84 2 (LE (es++fs))→K v' G):apK T0 84 H v u K:=by
 refine hs.app E_edge (by decide) hm (edges_cells h) (by rw [LE_length,LE_length];omega) (fun e=>?_) fun v' G k1 ot nb f=>k v' G k1 ot (by rw [LE_append];exact f)
 have:=congrArg List.length e;rw [LE_length,List.length_nil] at this;omega
end Go.Proofs
namespace Go.Proofs
open Go.Abs

variable {H G:AHeap} {v u f w:Value} {es fs S:List (Int × Int)} {l:List Int} {K:Value→AHeap→Prop}

def k4A:List (Int × Int):=[(0,1),(0,2),(0,3),(1,2),(1,3),(2,3)]
end Go.Proofs
namespace Go.Proofs
open Go.Abs

variable {H G Hb:AHeap} {v u f w:Value} {l m:List Int} {es:List (Int × Int)} {K:Value→AHeap→Prop} {bs:Nat} {n:Int}

def EdR (n:Int) (es:List (Int × Int)):Prop:=∀ e∈es,0≤e.1∧e.1<n∧0≤e.2∧e.2<n
structure Gd (n:Int) (es:List (Int × Int)):Prop where
 pos:0<es.length
 len:es.length≤1000
 rng:EdR n es
theorem EdR.made (h:EdR n es):EdR n (srtE (es.map nrmE)):=fun e he=>by
 obtain ⟨a,ha,rfl⟩:=List.mem_map.1 ((srtE_perm _).mem_iff.1 he)
 have:=h a ha
 unfold nrmE
 simp only
 split <;> split <;> omega
theorem Gd.made (h:Gd n es):Gd n (srtE (es.map nrmE)):=⟨by rw [srtE_length,List.length_map];exact h.pos,by rw [srtE_length,List.length_map];exact h.len,h.rng.made⟩
theorem EdR.snoc (h:EdR n es) {a b:Int} (ha:0≤a∧a<n) (hb:0≤b∧b<n):EdR n (es++[(a,b)]):=fun e he=>by
 rcases List.mem_append.1 he with he|he
 ·exact h e he
 ·rw [List.mem_singleton.1 he];exact ⟨ha.1,ha.2,hb.1,hb.2⟩
theorem l01DrawOf_ok (hs:Src Hb bs H) (h2:2≤n) (hn:n≤100) (he:n%2=0) (k:∀ v' es G,Kb bs H G→Src Hb bs G→Fresh H.length G v' 84 2 (LE es)→Gd n es→K (.agg ⟨[.int .i64 n,v']⟩) G) :
 AC Tryz.prog T0 83 [.pointer (some ⟨bs,0,none⟩),.int .i64 n] H K:=by
 have hbs:=hs.lt
 have nilR:EdR n []:=fun e he=>absurd he (by simp)
 apply F83.ac
 unfold F83.B24
 refine newK_f rfl fun H1 l1 n1 o1=>?_
 unfold F83.B23 F83.L10
 refine ⟨fun x0 x1 x4 x5 G=>.pointer (some ⟨bs,0,none⟩)=x0∧n=x1∧H.length=x4∧Kb bs H G∧Src Hb bs G∧Own G H.length 26 [.int .i64 0,.slice none 0 0]∧∃ i:Nat,x5=i∧i≤20,fun _ _ _ x5 _=>20-x5.toNat,⟨rfl,rfl,rfl,.of_le l1,hs.le l1,o1,0,rfl,by omega⟩,?_⟩
 rintro x0 x1 x4 x5 G ⟨rfl,rfl,rfl,kb,s,ob,i,rfl,hi⟩
 have hHG:=kb.len
 have fin:∀ v' es G',Kb bs H G'→Src Hb bs G'→Own G' H.length 26 [.int .i64 0,.slice none 0 0]→Fresh H.length G' v' 84 2 (LE es)→Gd n es→(∀ b,bk v'=some b→b≠H.length)→stK G' H.length 0 [.int .i64 n,v'] (fun H7=>ldI .i64 H7 H.length 0 (fun v8=>ld1 H7 H.length 1 (fun v9=>K (.agg ⟨[.int .i64 v8,v9]⟩) H7))):=by
  intro v' es G' kb' s' ob' f' g' hne
  refine stK_f (new:=[.int .i64 n,v']) ob' (by simp) (mem_iv (fresh_one f')) rfl fun G5 b5 o5=>ldI_own o5 rfl (ld1_own o5 rfl ?_)
  have hsb:Src Hb bs G5:=by
   obtain ⟨h1,h2,cv,l,a,x,h3,h4,h5,h6,h7⟩:=s'
   have hlt:=h1.1
   exact ⟨b5.le h1 (by omega),h2,cv,l,a,x,h3,h4,b5.own h5 (by omega),h6,h7⟩
  refine k v' es G5 ⟨by rw [b5.len];exact kb'.len,fun q o hq ho=>?_⟩ hsb (fresh_oth f' fun b o hb ho=>by rw [b5.same b (hne b hb)];exact ho) g'
  have:=lt_of_get ho
  rw [b5.same q (by omega)];exact kb'.old q o hq ho
 have made:∀ v' es G',Kb bs H G'→Src Hb bs G'→Own G' H.length 26 [.int .i64 0,.slice none 0 0]→Edges G' v' es→Gd n es→AC Tryz.prog T0 105 [.int .i64 n,v'] G' (fun v1 H2=>agg2 v1 (fun v3 v4=>asI .i64 v3 (fun v5=>stK H2 H.length 0 [.int .i64 v5,v4] (fun H7=>ldI .i64 H7 H.length 0 (fun v8=>ld1 H7 H.length 1 (fun v9=>K (.agg ⟨[.int .i64 v8,v9]⟩) H7)))))):=by
  intro v' es G' kb' s' ob' h' g'
  have hlt:=ob'.lt
  refine l01Made_ok h' (by have:=g'.len;omega) fun v2 G2 l2 f2=>agg2_mk (asI_mk ?_)
  exact fin v2 _ G2 (kb'.trans (.of_le l2)) (s'.le l2) (ob'.le l2) (f2.less kb'.len) g'.made fun b hb=>by have:=(f2.bk_lt hb).1;omega
 have hd2:IntKind.i64.wrap (Int.tdiv n 2)=n/2:=by rw [Int.tdiv_eq_ediv_of_nonneg (by omega),wrap_id (by omega) (by omega)]
 unfold F83.B22
 refine pif_cases (fun hb=>?_) fun hb=>?_
 rotate_left
 ·unfold F83.B9
  refine newK_f rfl fun G1 g1 m1 p1=>?_
  have hlt:=ob.lt
  unfold F83.B8 F83.L2
  refine ⟨fun x1 x4 x12 x13 G'=>n=x1∧H.length=x4∧G.le G'∧∃ (j:Nat) (es:List (Int × Int)),x13=j∧(j:Int)≤n∧Fresh G.length G' x12 84 2 (LE es)∧EdR n es∧j≤es.length∧es.length≤2*j,fun _ _ _ x13 _=>(n-x13).toNat,⟨rfl,rfl,g1,0,[],rfl,by omega,.inr ⟨_,0,Nat.le_refl _,rfl,p1,rfl⟩,nilR,by simp,by simp⟩,?_⟩
  rintro x1 x4 x12 x13 G' ⟨rfl,rfl,lG,j,es,rfl,hj,hF,hE,hl1,hl2⟩
  have next:∀ v3 G4 es',G.le G4→Fresh G.length G4 v3 84 2 (LE es')→EdR n es'→j+1≤es'.length→es'.length≤2*(j+1)→(j:Int)<n→F83.B3 K (fun y1 y4 y12 y13 G'=>(n=y1∧H.length=y4∧G.le G'∧∃ (j:Nat) (es:List (Int × Int)),y13=j∧(j:Int)≤n∧Fresh G.length G' y12 84 2 (LE es)∧EdR n es∧j≤es.length∧es.length≤2*j)∧(n-y13).toNat<(n-(j:Int)).toNat) n H.length v3 j G4:=by
   intro v3 G4 es' l4 f4 e4 h3 h4 h5
   unfold F83.B3
   rw [wrap_id (by omega) (by omega)]
   exact ⟨⟨rfl,rfl,l4,j+1,es',by omega,by omega,f4,e4,h3,h4⟩,by omega⟩
  unfold F83.B7
  refine pif_cases (fun hc=>?_) fun hc=>?_
  ·have hlt:=of_decide_eq_true hc
   unfold F83.B6
   rw [wrap_id (by omega) (by omega)]
   have t0:0≤Int.tmod ((j:Int)+1) n:=Int.tmod_nonneg _ (by omega)
   have t1:Int.tmod ((j:Int)+1) n<n:=Int.tmod_lt_of_pos _ (by omega)
   have hE1:=hE.snoc (a:=j) (b:=Int.tmod ((j:Int)+1) n) ⟨by omega,hlt⟩ ⟨t0,t1⟩
   refine pif_t (by simp;omega) (push_edge (x:=((j:Int),Int.tmod ((j:Int)+1) n)) hF lG.1 (by omega) fun v3 G4 k4 _ _ f4=>?_)
   have l4:=k4.le lG (Nat.le_refl _)
   unfold F83.B5
   rw [hd2]
   refine pif_cases (fun hq=>?_) fun hq=>next v3 G4 _ l4 f4 hE1 (by simp;omega) (by simp;omega) hlt
   have hq:=of_decide_eq_true hq
   unfold F83.B4
   rw [hd2,wrap_id (by omega) (by omega)]
   refine push_edge (x:=((j:Int),(j:Int)+n/2)) f4 l4.1 (by simp;omega) fun v5 G6 k6 _ _ f6=>?_
   exact next v5 G6 _ (k6.le l4 (Nat.le_refl _)) f6 (hE1.snoc ⟨by omega,by omega⟩ ⟨by omega,by omega⟩) (by simp;omega) (by simp;omega) hlt
  ·have hge:=of_decide_eq_false hc
   unfold F83.B1
   exact made x12 es G' (kb.trans (.of_le lG)) (s.le lG) (ob.le lG) hF.edges ⟨by omega,by omega,hE⟩
 ·have hi20:=of_decide_eq_true hb
  unfold F83.B21
  rw [wrap_id (by omega) (by omega)]
  refine l01DrawOrder_ok s (by omega) fun v1 D G1 k1 s1 f1 hDl hDr=>newK_f rfl fun G2 l2 n2 o2=>?_
  have ob1:Own G1 H.length 26 [.int .i64 0,.slice none 0 0]:=k1.old _ _ (by omega) ob
  have kb2:=(kb.trans k1).trans (.of_le l2)
  have s2:=s1.le l2
  have hDi:∀ G',G1.le G'→Ints G' v1 D:=fun G' l=>f1.ints.le l
  unfold F83.B20 F83.L14
  refine ⟨fun x0 x1 x4 x5 x6 x7 x8 x9 G'=>.pointer (some ⟨bs,0,none⟩)=x0∧n=x1∧H.length=x4∧(i:Int)=x5∧v1=x6∧G1.le G'∧∃ (j:Nat) (es:List (Int × Int)),x9=2*(j:Int)∧2*(j:Int)≤3*n∧Fresh G1.length G' x7 84 2 (LE es)∧EdR n es∧es.length=j,fun _ _ _ _ _ _ _ x9 _=>(3*n-x9).toNat,⟨rfl,rfl,rfl,rfl,rfl,l2,0,[],rfl,by omega,.inr ⟨_,0,Nat.le_refl _,rfl,o2,rfl⟩,nilR,rfl⟩,?_⟩
  rintro x0 x1 x4 x5 x6 x7 x8 x9 G' ⟨rfl,rfl,rfl,rfl,rfl,lG,j,es,rfl,hj,hF,hE,hel⟩
  have hDG:=hDi G' lG
  unfold F83.B19
  refine hDG.len (pif_cases (fun hc=>?_) fun hc=>?_)
  ·have hlt:2*(j:Int)<3*n:=by have:=of_decide_eq_true hc;omega
   have r1:=hDr (D.getD (2*(j:Int)).toNat 0) (by rw [getD_of (by omega)];exact List.getElem_mem _)
   have r2:=hDr (D.getD (2*(j:Int)+1).toNat 0) (by rw [getD_of (by omega)];exact List.getElem_mem _)
   have q1:IntKind.i64.wrap (Int.tdiv (D.getD (2*(j:Int)).toNat 0) 3)=D.getD (2*(j:Int)).toNat 0/3:=by rw [Int.tdiv_eq_ediv_of_nonneg (by omega),wrap_id (by omega) (by omega)]
   have q2:IntKind.i64.wrap (Int.tdiv (D.getD (2*(j:Int)+1).toNat 0) 3)=D.getD (2*(j:Int)+1).toNat 0/3:=by rw [Int.tdiv_eq_ediv_of_nonneg (by omega),wrap_id (by omega) (by omega)]
   unfold F83.B18
   rw [wrap_id (by omega) (by omega)]
   refine hDG.rd (by omega) (by omega) (hDG.rd (by omega) (by omega) ?_)
   rw [q1,q2]
   unfold F83.B17
   refine push_edge (x:=(D.getD (2*(j:Int)).toNat 0/3,D.getD (2*(j:Int)+1).toNat 0/3)) hF lG.1 (by omega) fun v3 G4 k4 _ _ f4=>?_
   have l4:=k4.le lG (Nat.le_refl _)
   unfold F83.B16
   refine pif_cases (fun _=>?_) fun _=>?_
   all_goals
    unfold F83.B15
    rw [wrap_id (by omega) (by omega)]
    exact ⟨⟨rfl,rfl,rfl,rfl,rfl,l4,j+1,_,by omega,by omega,f4,hE.snoc ⟨by omega,by omega⟩ ⟨by omega,by omega⟩,by simp [hel]⟩,by show (3*n-(2*(j:Int)+2)).toNat<(3*n-2*(j:Int)).toNat;omega⟩
  ·have hge:=of_decide_eq_false hc
   unfold F83.B13
   refine pif_cases (fun hq=>?_) fun hq=>?_
   ·unfold F83.B12
    exact made x7 es G' ((kb.trans k1).trans (.of_le lG)) (s1.le lG) (ob1.le lG) hF.edges ⟨by omega,by omega,hE⟩
   ·unfold F83.B11
    rw [wrap_id (by omega) (by omega)]
    exact ⟨⟨rfl,rfl,rfl,(kb.trans k1).trans (.of_le lG),s1.le lG,ob1.le lG,i+1,by omega,by omega⟩,by show 20-((i:Int)+1).toNat<20-(i:Int).toNat;omega⟩
end Go.Proofs
namespace Go.Proofs
open Go.Abs

variable {H G Hb:AHeap} {v u f w:Value} {l m D:List Int} {es:List (Int × Int)} {K:Value→AHeap→Prop} {bs:Nat} {n:Int}

def renE (D:List Int) (es:List (Int × Int)):List (Int × Int):=es.map fun e=>(D.getD e.1.toNat 0,D.getD e.2.toNat 0)
theorem renE_rng (hD:D.length=n.toNat) (hr:∀ x∈D,0≤x∧x<n) (h:EdR n es):EdR n (renE D es):=fun e he=>by
 obtain ⟨a,ha,rfl⟩:=List.mem_map.1 he
 have h1:=h a ha
 have m1:D.getD a.1.toNat 0∈D:=by rw [getD_of (by omega)];exact List.getElem_mem _
 have m2:D.getD a.2.toNat 0∈D:=by rw [getD_of (by omega)];exact List.getElem_mem _
 have h2:=hr _ m1
 have h3:=hr _ m2
 exact ⟨h2.1,h2.2,h3.1,h3.2⟩
theorem l01Renamed_ok (h:Edges H v es) (hg:Gd n es) (hi:Ints H u D) (hD:D.length=n.toNat) (hr:∀ x∈D,0≤x∧x<n) (k:∀ v' es' G,H.le G→Fresh H.length G v' 84 2 (LE es')→Gd n es'→K (.agg ⟨[.int .i64 n,v']⟩) G) :
 AC Tryz.prog T0 80 [.agg ⟨[.int .i64 n,v]⟩,u] H K:=by
 have hlen:=hg.len
 apply F80.ac
 unfold F80.B8
 refine newK_f (all_iv (edges_one' h)) fun H1 l1 n1 o1=>newK_f rfl fun H2 l2 n2 o2=>?_
 have l02:=AHeap.le_trans l1 l2
 have o12:=o1.le l2
 unfold F80.B7
 refine newK_f rfl fun H3 l3 n3 o3=>?_
 unfold F80.B6 F80.L2
 refine ⟨fun x1 x2 x4 x5 x6 G=>u=x1∧H.length=x2∧H1.length=x4∧H2.le G∧∃ i:Nat,x6=i∧i≤es.length∧Fresh H2.length G x5 84 2 (LE (renE D (es.take i))),fun _ _ _ _ x6 _=>es.length-x6.toNat,⟨rfl,rfl,rfl,l3,0,rfl,by omega,.inr ⟨_,0,Nat.le_refl _,rfl,o3,rfl⟩⟩,?_⟩
 rintro x1 x2 x4 x5 x6 G ⟨rfl,rfl,rfl,lG,i,rfl,hil,hF⟩
 have l0G:=AHeap.le_trans l02 lG
 unfold F80.B5
 refine ld1_own (o12.le lG) rfl ((h.le l0G).len (pif_cases (fun hb=>?_) fun hb=>?_))
 ·have hlt:i<es.length:=by have:=of_decide_eq_true hb;omega
  have hm:es.getD i (0,0)∈es:=by rw [getD_of hlt];exact List.getElem_mem _
  have hrg:=hg.rng _ hm
  obtain ⟨bb,oo,hk,c1,c2⟩:=(h.le l0G).idx (show (0:Int)≤i by omega) (by omega)
  simp only [Int.toNat_natCast] at c1 c2
  unfold F80.B4
  refine ld1_own (o12.le lG) rfl (hk _ (ldI_mk c1 ((hi.le l0G).rd (by omega) (by omega) (ld1_own (o12.le lG) rfl (hk _ (ldI_mk c2 ((hi.le l0G).rd (by omega) (by omega) ?_)))))))
  refine push_edge (x:=(D.getD (es.getD i (0,0)).1.toNat 0,D.getD (es.getD i (0,0)).2.toNat 0)) hF lG.1 (by simp [renE];omega) fun v3 G4 k4 _ _ f4=>?_
  unfold F80.B3
  rw [wrap_id (by omega) (by omega)]
  refine ⟨⟨rfl,rfl,rfl,k4.le lG (Nat.le_refl _),i+1,by omega,by omega,?_⟩,by simp;omega⟩
  have e:renE D (es.take (i+1))=renE D (es.take i)++[(D.getD (es.getD i (0,0)).1.toNat 0,D.getD (es.getD i (0,0)).2.toNat 0)]:=by
   unfold renE
   rw [List.take_succ_eq_append_getElem hlt,List.map_append,← getD_of (d:=(0,0)) hlt];rfl
  rw [e];exact f4
 ·have hie:i=es.length:=by have:=of_decide_eq_false hb;omega
  subst hie
  rw [List.take_length] at hF
  have hG':Gd n (renE D es):=⟨by unfold renE;rw [List.length_map];exact hg.pos,by unfold renE;rw [List.length_map];exact hg.len,renE_rng hD hr hg.rng⟩
  unfold F80.B1
  refine ldI_own (o12.le lG) rfl (l01Made_ok hF.edges (by have:=hG'.len;omega) fun v2 G2 g2 f2=>agg2_mk (asI_mk ?_))
  have l2G:=AHeap.le_trans lG g2
  have hb1:=o2.lt
  refine stK_f (new:=[.int .i64 n,v2]) (o2.le l2G) (by simp) (mem_iv (fresh_one f2)) rfl fun G5 b5 o5=>ldI_own o5 rfl (ld1_own o5 rfl ?_)
  have hGl:=lG.1
  have h0l:=l1.1
  exact k v2 _ G5 (b5.le (AHeap.le_trans l02 l2G) h0l) (((f2.but b5 (by omega)).less (by omega))) hG'.made
end Go.Proofs
namespace Go.Proofs
open Go.Abs

variable {H G Hb:AHeap} {v u f w:Value} {l m D:List Int} {es:List (Int × Int)} {K:Value→AHeap→Prop} {bs:Nat} {n:Int}

theorem l01Cycle_ok {m0 c:Nat} (hF:Fresh m0 H v 84 2 (LE es)) (hm:m0≤H.length) (oc:Own H c 2 (LI D)) (hc:bk v≠some c) (hr:EdR n es) (hD:∀ x∈D,0≤x∧x<n) (hl:es.length+D.length≤1000)
 (k:∀ v' es' G,Keep m0 H G→Fresh m0 G v' 84 2 (LE es')→EdR n es'→es'.length=es.length+D.length→(∀ b,bk v'=some b→bk v=some b∨H.length≤b)→K v' G) :
 AC Tryz.prog T0 106 [v,.slice (some ⟨c,0,none⟩) D.length (D.length+1)] H K:=by
 have hcl:=oc.lt
 apply F106.ac
 unfold F106.B7 F106.B6 F106.L2
 refine ⟨fun x0 x1 x5 G=>.slice (some ⟨c,0,none⟩) D.length (D.length+1)=x1∧Keep m0 H G∧Own G c 2 (LI D)∧(∀ b,bk x0=some b→bk v=some b∨H.length≤b)∧∃ (i:Nat) (es':List (Int × Int)),x5=i∧i≤D.length∧Fresh m0 G x0 84 2 (LE es')∧EdR n es'∧es'.length=es.length+i,fun _ _ x5 _=>D.length-x5.toNat,⟨rfl,⟨Nat.le_refl _,fun _ _ _ h=>h⟩,oc,fun b hb=>.inl hb,0,es,rfl,by omega,hF,hr,rfl⟩,?_⟩
 rintro x0 x1 x5 G ⟨rfl,kp,oG,hbk,i,es',rfl,hi,hFG,hrG,hlG⟩
 have hkl:=kp.len
 have hiG:Ints G (.slice (some ⟨c,0,none⟩) D.length (D.length+1)) D:=own_ints oG
 unfold F106.B5
 refine lenK_of (pif_cases (fun hb=>?_) fun hb=>?_)
 ·have hlt:i<D.length:=by have:=of_decide_eq_true hb;omega
  have t0:0≤Int.tmod ((i:Int)+1) (D.length:Int):=Int.tmod_nonneg _ (by omega)
  have t1:Int.tmod ((i:Int)+1) (D.length:Int)<D.length:=Int.tmod_lt_of_pos _ (by omega)
  have r1:=hD (D.getD (i:Int).toNat 0) (by rw [getD_of (by omega)];exact List.getElem_mem _)
  have t2:(Int.tmod ((i:Int)+1) (D.length:Int)).toNat<D.length:=(Int.toNat_lt t0).2 t1
  have r2:=hD (D.getD (Int.tmod ((i:Int)+1) (D.length:Int)).toNat 0) (by rw [getD_of t2];exact List.getElem_mem _)
  unfold F106.B4
  rw [wrap_id (by omega) (by omega)]
  have d0:((D.length:Nat):Int)≠0:=by omega
  refine hiG.rd (by omega) (by omega) (lenK_of (pif_t (by simpa using d0) (hiG.rd t0 t1 ?_)))
  refine push_edge (x:=(D.getD (i:Int).toNat 0,D.getD (Int.tmod ((i:Int)+1) (D.length:Int)).toNat 0)) hFG (Nat.le_trans hm hkl) (by rw [hlG];exact Nat.lt_of_le_of_lt (show es.length+i≤1000 by omega) (by decide)) fun v3 G4 k4 ot nb f4=>?_
  unfold F106.B3
  rw [wrap_id (by omega) (by omega)]
  refine ⟨⟨rfl,⟨by have:=k4.len;omega,fun b o hb ho=>k4.old b o hb (kp.old b o hb ho)⟩,ot c _ (fun h=>?_) oG,fun b hb=>.inr (by have:=nb b hb;omega),i+1,_,by omega,by omega,f4,hrG.snoc r1 r2,by simp;omega⟩,by simp;omega⟩
  rcases hbk c h with h|h
  ·exact hc h
  ·omega
 ·have hie:i=D.length:=by have:=of_decide_eq_false hb;omega
  subst hie
  unfold F106.B1
  exact k x0 es' G kp hFG hrG hlG hbk
end Go.Proofs
namespace Go.Proofs
open Go.Abs

variable {H G Hb H0:AHeap} {v u f w:Value} {l m D:List Int} {es fs:List (Int × Int)} {K:Value→AHeap→Prop} {bs:Nat} {n:Int}

theorem LI_one:∀ (l:List Int),(LI l).all Value.oneCell'=true
 | []=>rfl
 | x::l=>by show (Value.int .i64 x::LI l).all Value.oneCell'=true;rw [List.all_cons,LI_one l];rfl
theorem LE_one:∀ (l:List (Int × Int)),(LE l).all Value.oneCell'=true
 | []=>rfl
 | x::l=>by rw [LE_cons,List.all_cons,List.all_cons,LE_one l];rfl
theorem push_edges {m0:Nat} (fs:List (Int × Int)) {cs:List Value} {c:Nat} (hF:Fresh m0 H v 84 2 (LE es)) (hm:m0≤H.length) (hc:cs=LE fs) (hn:c=fs.length) (h0:0<fs.length) (hl:es.length+fs.length≤1000)
 (k:∀ v' G,Keep m0 H G→Fresh m0 G v' 84 2 (LE (es++fs))→K v' G) :
 newK H cs 84 (fun b1 H2=>apK T0 84 H2 v (.slice (some ⟨b1,0,none⟩) c (c+1)) K):=by
 subst hc;subst hn
 refine newK_f (LE_one fs) fun H2 l2 n2 o2=>?_
 have hE:Edges H2 (.slice (some ⟨H.length,0,none⟩) fs.length (fs.length+1)) fs:=Fresh.edges (m:=0) (e:=84) (.inr ⟨_,fs.length,Nat.zero_le _,rfl,o2,by rw [LE_length]⟩)
 exact app_edges (hF.sl.le l2) (Nat.le_trans hm l2.1) hE h0 (by omega) fun v' G k1 _ f=>k v' G ((Keep.of_le l2).trans k1) f
theorem EdR.nil:EdR n []:=fun e he=>absurd he (by simp)
theorem EdR.cons {a b:Int} (h1:0≤a∧a<n) (h2:0≤b∧b<n) (h:EdR n es):EdR n ((a,b)::es):=fun e he=>by
 rcases List.mem_cons.1 he with rfl|he
 ·exact ⟨h1.1,h1.2,h2.1,h2.2⟩
 ·exact h e he
theorem EdR.app (h:EdR n es) (g:EdR n fs):EdR n (es++fs):=fun e he=>by
 rcases List.mem_append.1 he with he|he
 ·exact h e he
 ·exact g e he
theorem EdR.up {n':Int} (h:EdR n es) (hn:n≤n'):EdR n' es:=fun e he=>by
 have:=h e he;omega
def NamK (n:Int) (c:Nat) (H:AHeap) (K:Value→AHeap→Prop):Prop:=∀ v es G,H.le G→Fresh H.length G v 84 2 (LE es)→Gd n es→es.length≤c→K (.tuple ⟨[.agg ⟨[.int .i64 n,v]⟩,.bool true]⟩) G
theorem made_tail {c:Nat} (k:NamK n c H0 K) (l0:H0.le H) (o:Own H H0.length 26 [.int .i64 0,.slice none 0 0]) (h:Edges H v es) (hr:EdR n es) (h0:0<es.length) (hl:es.length≤c) (hc:c≤40:=by decide) :
 AC Tryz.prog T0 105 [.int .i64 n,v] H (fun v1 H2=>agg2 v1 (fun v3 v4=>asI .i64 v3 (fun v5=>stK H2 H0.length 0 [.int .i64 v5,v4] (fun H7=>ldI .i64 H7 H0.length 0 (fun v8=>ld1 H7 H0.length 1 (fun v9=>K (.tuple ⟨[.agg ⟨[.int .i64 v8,v9]⟩,.bool true]⟩) H7)))))):=by
 have hlt:=o.lt
 have hg:Gd n es:=⟨h0,by omega,hr⟩
 refine l01Made_ok h (by omega) fun v2 G2 l2 f2=>agg2_mk (asI_mk ?_)
 refine stK_f (new:=[.int .i64 n,v2]) (o.le l2) (by simp) (mem_iv (fresh_one f2)) rfl fun G5 b5 o5=>ldI_own o5 rfl (ld1_own o5 rfl ?_)
 have hll:=l0.1
 exact k v2 _ G5 (b5.le (AHeap.le_trans l0 l2) (Nat.le_refl _)) ((f2.but b5 hlt).less hll) hg.made (by rw [srtE_length,List.length_map];exact hl)
structure NmS (H0 H:AHeap) (v:Value) (es:List (Int × Int)):Prop where
 kp:Keep (H0.length+1) H0 H
 ob:Own H H0.length 26 [.int .i64 0,.slice none 0 0]
 f:Fresh (H0.length+1) H v 84 2 (LE es)
theorem NmS.len (h:NmS H0 H v es):H0.length+1≤H.length:=h.ob.lt
theorem NmS.le0 (h:NmS H0 H v es):H0.le H:=h.kp.le (AHeap.le_refl _) (Nat.le_succ _)
theorem NmS.le (h:NmS H0 H v es) (l:H.le G):NmS H0 G v es:=⟨h.kp.trans (.of_le l),h.ob.le l,h.f.le l⟩
theorem NmS.push (fs:List (Int × Int)) {cs:List Value} {c:Nat} (h:NmS H0 H v es) (hc:cs=LE fs) (hn:c=fs.length) (h0:0<fs.length) (hl:es.length+fs.length≤1000) (k:∀ v' G,NmS H0 G v' (es++fs)→K v' G) :
 newK H cs 84 (fun b1 H2=>apK T0 84 H2 v (.slice (some ⟨b1,0,none⟩) c (c+1)) K):=
 push_edges fs h.f h.len hc hn h0 hl fun v' G k1 f=>k v' G ⟨h.kp.trans k1,k1.own h.ob (Nat.lt_succ_self _),f⟩
theorem NmS.cyc (D:List Int) {cs:List Value} {c:Nat} (h:NmS H0 H v es) (hc:cs=LI D) (hn:c=D.length) (hr:EdR n es) (hD:∀ x∈D,0≤x∧x<n) (hl:es.length+D.length≤1000) (k:∀ v' es' G,NmS H0 G v' es'→EdR n es'→es'.length=es.length+D.length→K v' G) :
 newK H cs 2 (fun b1 H2=>AC Tryz.prog T0 106 [v,.slice (some ⟨b1,0,none⟩) c (c+1)] H2 K):=by
 subst hc;subst hn
 refine newK_f (LI_one D) fun H2 l2 n2 o2=>?_
 have h2:=h.le l2
 exact l01Cycle_ok h2.f h2.len o2 (fun e=>by have:=(h.f.bk_lt e).2;omega) hr hD hl fun v' es' G k1 f r e _=>k v' es' G ⟨h2.kp.trans k1,k1.own h2.ob (Nat.lt_succ_self _),f⟩ r e
theorem NmS.made {c:Nat} (k:NamK n c H0 K) (h:NmS H0 H v es) (hr:EdR n es) (h0:0<es.length) (hl:es.length≤c) (hc:c≤40:=by decide) :
 AC Tryz.prog T0 105 [.int .i64 n,v] H (fun v1 H2=>agg2 v1 (fun v3 v4=>asI .i64 v3 (fun v5=>stK H2 H0.length 0 [.int .i64 v5,v4] (fun H7=>ldI .i64 H7 H0.length 0 (fun v8=>ld1 H7 H0.length 1 (fun v9=>K (.tuple ⟨[.agg ⟨[.int .i64 v8,v9]⟩,.bool true]⟩) H7)))))):=
 made_tail k h.le0 h.ob h.f.edges hr h0 hl hc
theorem nm_theta (k:NamK 2 40 H0 K) (h:NmS H0 H v []):F79.B2 K H0.length H:=by
 unfold F79.B2
 refine newK_f rfl fun H2 l2 n2 o2=>?_
 have h2:=h.le l2
 have hE:Edges H2 (.slice (some ⟨H.length,0,none⟩) 3 (3+1)) [(0,1),(0,1),(0,1)]:=Fresh.edges (m:=0) (e:=84) (.inr ⟨_,3,Nat.zero_le _,rfl,o2,rfl⟩)
 exact made_tail k h2.le0 h2.ob hE (by refine .cons ?_ ?_ (.cons ?_ ?_ (.cons ?_ ?_ .nil)) <;> decide) (by decide) (by decide)
theorem nm_k4 (k:NamK 4 40 H0 K) (h:NmS H0 H v []):F79.B3 K H0.length H:=by
 unfold F79.B3
 refine newK_f rfl fun H2 l2 n2 o2=>?_
 have h2:=h.le l2
 have hE:Edges H2 (.slice (some ⟨H.length,0,none⟩) 6 (6+1)) k4A:=Fresh.edges (m:=0) (e:=84) (.inr ⟨_,6,Nat.zero_le _,rfl,o2,rfl⟩)
 exact made_tail k h2.le0 h2.ob hE (by unfold k4A;refine .cons ?_ ?_ (.cons ?_ ?_ (.cons ?_ ?_ (.cons ?_ ?_ (.cons ?_ ?_ (.cons ?_ ?_ .nil))))) <;> decide) (by decide) (by decide)
theorem nm_k33 (k:NamK 6 40 H0 K) (h:NmS H0 H v []):F79.B9 K H0.length v H:=by
 unfold F79.B9 F79.L5
 refine ⟨fun x2 x4 x5 G=>H0.length=x2∧∃ (i:Nat) (es:List (Int × Int)),x5=i∧i≤3∧NmS H0 G x4 es∧EdR 6 es∧es.length=3*i,fun _ _ x5 _=>3-x5.toNat,⟨rfl,0,[],rfl,by omega,h,.nil,rfl⟩,?_⟩
 rintro x2 x4 x5 G ⟨rfl,i,es,rfl,hi,hS,hE,hl⟩
 unfold F79.B8
 refine pif_cases (fun hb=>?_) fun hb=>?_
 ·have hlt:=of_decide_eq_true hb
  unfold F79.B7
  refine hS.push [((i:Int),3),((i:Int),4),((i:Int),5)] rfl rfl (by simp) (by simp;omega) fun v' G' h'=>?_
  unfold F79.B6
  rw [wrap_id (by omega) (by omega)]
  exact ⟨⟨rfl,i+1,_,by omega,by omega,h',hE.app (by refine .cons ?_ ?_ (.cons ?_ ?_ (.cons ?_ ?_ .nil)) <;> omega),by simp;omega⟩,by simp;omega⟩
 ·have hge:=of_decide_eq_false hb
  unfold F79.B4
  exact hS.made k hE (by omega) (by omega)
theorem nm_prism (k:NamK 6 40 H0 K) (h:NmS H0 H v []):F79.B11 K H0.length v H:=by
 unfold F79.B11
 refine h.cyc (n:=6) [0,1,2] rfl rfl .nil (fun x hx=>by simp at hx;omega) (by decide) fun v1 es1 G1 h1 r1 e1=>h1.cyc (n:=6) [3,4,5] rfl rfl r1 (fun x hx=>by simp at hx;omega) (by rw [e1];decide) fun v2 es2 G2 h2 r2 e2=>?_
 unfold F79.B10
 have hl2:es2.length=6:=by rw [e2,e1];rfl
 refine h2.push [(0,3),(1,4),(2,5)] rfl rfl (by simp) (by simp;omega) fun v3 G3 h3=>?_
 exact h3.made k (n:=6) (r2.app (by refine .cons ?_ ?_ (.cons ?_ ?_ (.cons ?_ ?_ .nil)) <;> decide)) (by simp) (by simp;omega)
theorem cube_bit:∀ i:Fin 8,∀ j:Fin 3,((IntKind.i64.wrap ((BitVec.ofInt 64 (i.val:Int)&&&BitVec.ofInt 64 ((2^j.val:Nat):Int)).toNat:Int):Int)==0)=true→i.val+2^j.val<8:=by decide +kernel
theorem cube_zero:∀ j:Fin 3,((IntKind.i64.wrap ((BitVec.ofInt 64 (((0:Nat):Int))&&&BitVec.ofInt 64 ((2^j.val:Nat):Int)).toNat:Int):Int)==0)=true:=by decide +kernel
theorem nm_cube (k:NamK 8 40 H0 K) (h:NmS H0 H v []):F79.B22 K H0.length v H:=by
 unfold F79.B22 F79.L13
 refine ⟨fun x2 x4 x6 G=>H0.length=x2∧∃ (i:Nat) (es:List (Int × Int)),x6=i∧i≤8∧NmS H0 G x4 es∧EdR 8 es∧es.length≤3*i∧(0<i→0<es.length),fun _ _ x6 _=>8-x6.toNat,⟨rfl,0,[],rfl,by omega,h,.nil,by simp,by simp⟩,?_⟩
 rintro x2 x4 x6 G ⟨rfl,i,es,rfl,hi,hS,hE,hl,hp⟩
 unfold F79.B21
 refine pif_cases (fun hb=>?_) fun hb=>?_
 ·have hlt:=of_decide_eq_true hb
  unfold F79.B20 F79.L15
  refine ⟨fun x2 x4 x6 x7 G=>H0.length=x2∧(i:Int)=x6∧∃ (j:Nat) (es:List (Int × Int)),x7=((2^j:Nat):Int)∧j≤3∧NmS H0 G x4 es∧EdR 8 es∧es.length≤3*i+j∧(0<i∨0<j→0<es.length),fun _ _ _ x7 _=>8-x7.toNat,⟨rfl,rfl,0,es,rfl,by omega,hS,hE,by omega,fun h=>hp (by omega)⟩,?_⟩
  rintro x2 x4 x6 x7 G ⟨rfl,rfl,j,es,rfl,hj,hS,hE,hl,hp⟩
  unfold F79.B19
  have p3:j=0∨j=1∨j=2∨j=3:=by omega
  refine pif_cases (fun hc=>?_) fun hc=>?_
  ·have hj3:j<3:=by
    have hc:=of_decide_eq_true hc
    rcases p3 with rfl|rfl|rfl|rfl <;> first|omega|(exact absurd hc (by decide))
   have h2:2^(j+1)=2*2^j:=by rw [Nat.pow_succ,Nat.mul_comm]
   have h4:2^j≤4∧1≤2^j:=by
    have:j=0∨j=1∨j=2:=by omega
    rcases this with rfl|rfl|rfl <;> decide
   unfold F79.B18
   refine pif_cases (fun hd=>?_) fun hd=>?_
   ·have hlt8:=cube_bit ⟨i,by omega⟩ ⟨j,hj3⟩ hd
    simp only at hlt8
    unfold F79.B17
    rw [wrap_id (by omega) (by omega)]
    refine hS.push [((i:Int),(i:Int)+((2^j:Nat):Int))] rfl rfl (by simp) (by simp;omega) fun v' G' h'=>?_
    unfold F79.B16
    rw [wrap_id (by omega) (by omega)]
    exact ⟨⟨rfl,rfl,j+1,_,by rw [h2];omega,by omega,h',hE.app (.cons (by omega) (by omega) .nil),by simp;omega,fun _=>by simp⟩,by show 8-(2*((2^j:Nat):Int)).toNat<8-(((2^j:Nat):Int)).toNat;generalize 2^j=q at h4 ⊢;omega⟩
   ·unfold F79.B16
    rw [wrap_id (by omega) (by omega)]
    refine ⟨⟨rfl,rfl,j+1,es,by rw [h2];omega,by omega,hS,hE,by omega,fun _=>?_⟩,by show 8-(2*((2^j:Nat):Int)).toNat<8-(((2^j:Nat):Int)).toNat;generalize 2^j=q at h4 ⊢;omega⟩
    by_cases h0:i=0
    ·subst h0
     have hz:=cube_zero ⟨j,hj3⟩
     rw [hd] at hz;cases hz
    ·exact hp (by omega)
  ·have hj3:j=3:=by
    have hc:=of_decide_eq_false hc
    rcases p3 with rfl|rfl|rfl|rfl <;> first|rfl|(exact absurd (by decide) hc)
   subst hj3
   unfold F79.B14
   rw [wrap_id (by omega) (by omega)]
   exact ⟨⟨rfl,i+1,es,by omega,by omega,hS,hE,by omega,fun _=>hp (.inr (by decide))⟩,by simp;omega⟩
 ·have hge:=of_decide_eq_false hb
  unfold F79.B12
  exact hS.made k hE (hp (by omega)) (by omega)
theorem nm_petersen (k:NamK 10 15 H0 K) (h:NmS H0 H v []):F79.B28 K H0.length v H:=by
 unfold F79.B28 F79.L24
 refine ⟨fun x2 x4 x8 G=>H0.length=x2∧∃ (i:Nat) (es:List (Int × Int)),x8=i∧i≤5∧NmS H0 G x4 es∧EdR 10 es∧es.length=3*i,fun _ _ x8 _=>5-x8.toNat,⟨rfl,0,[],rfl,by omega,h,.nil,rfl⟩,?_⟩
 rintro x2 x4 x8 G ⟨rfl,i,es,rfl,hi,hS,hE,hl⟩
 unfold F79.B27
 refine pif_cases (fun hb=>?_) fun hb=>?_
 ·have hlt:=of_decide_eq_true hb
  unfold F79.B26
  rw [wrap_id (x:=(i:Int)+1) (by omega) (by omega),wrap_id (x:=(i:Int)+5) (by omega) (by omega),wrap_id (x:=(i:Int)+2) (by omega) (by omega)]
  have t0:0≤Int.tmod ((i:Int)+1) 5:=Int.tmod_nonneg _ (by omega)
  have t1:Int.tmod ((i:Int)+1) 5<5:=Int.tmod_lt_of_pos _ (by omega)
  have s0:0≤Int.tmod ((i:Int)+2) 5:=Int.tmod_nonneg _ (by omega)
  have s1:Int.tmod ((i:Int)+2) 5<5:=Int.tmod_lt_of_pos _ (by omega)
  obtain ⟨a,ha⟩:∃ a,a=Int.tmod ((i:Int)+1) 5:=⟨_,rfl⟩
  obtain ⟨b,hb⟩:∃ b,b=Int.tmod ((i:Int)+2) 5:=⟨_,rfl⟩
  rw [← ha] at t0 t1 ⊢
  rw [← hb] at s0 s1 ⊢
  rw [wrap_id (x:=b+5) (by omega) (by omega)]
  refine hS.push [((i:Int),a),((i:Int),(i:Int)+5),((i:Int)+5,b+5)] rfl rfl (by simp) (by simp;omega) fun v' G' h'=>?_
  unfold F79.B25
  rw [wrap_id (by omega) (by omega)]
  exact ⟨⟨rfl,i+1,_,by omega,by omega,h',hE.app (by refine .cons ?_ ?_ (.cons ?_ ?_ (.cons ?_ ?_ .nil)) <;> omega),by simp;omega⟩,by simp;omega⟩
 ·have hge:=of_decide_eq_false hb
  unfold F79.B23
  exact hS.made k hE (by omega) (by omega)
theorem nm_flower (k:NamK 20 40 H0 K) (h:NmS H0 H v []):F79.B44 K H0.length v H:=by
 unfold F79.B44 F79.L40
 refine ⟨fun x2 x4 x12 G=>H0.length=x2∧∃ (i:Nat) (es:List (Int × Int)),x12=i∧i≤5∧NmS H0 G x4 es∧EdR 20 es∧es.length=3*i,fun _ _ x12 _=>5-x12.toNat,⟨rfl,0,[],rfl,by omega,h,.nil,rfl⟩,?_⟩
 rintro x2 x4 x12 G ⟨rfl,i,es,rfl,hi,hS,hE,hl⟩
 unfold F79.B43
 refine pif_cases (fun hb=>?_) fun hb=>?_
 ·have hlt:=of_decide_eq_true hb
  unfold F79.B42
  rw [wrap_id (x:=(i:Int)+5) (by omega) (by omega),wrap_id (x:=(i:Int)+10) (by omega) (by omega),wrap_id (x:=(i:Int)+15) (by omega) (by omega)]
  refine hS.push [((i:Int),(i:Int)+5),((i:Int),(i:Int)+10),((i:Int),(i:Int)+15)] rfl rfl (by simp) (by simp;omega) fun v' G' h'=>?_
  unfold F79.B41
  rw [wrap_id (by omega) (by omega)]
  exact ⟨⟨rfl,i+1,_,by omega,by omega,h',hE.app (by refine .cons ?_ ?_ (.cons ?_ ?_ (.cons ?_ ?_ .nil)) <;> omega),by simp;omega⟩,by simp;omega⟩
 ·have hge:=of_decide_eq_false hb
  unfold F79.B39
  refine hS.cyc (n:=20) [5,6,7,8,9] rfl rfl hE (fun x hx=>by simp at hx;omega) (by simp;omega) fun v1 es1 G1 h1 r1 e1=>?_
  unfold F79.B38
  have e1:es1.length=es.length+5:=e1
  refine h1.cyc (n:=20) [10,11,12,13,14,15,16,17,18,19] rfl rfl r1 (fun x hx=>by simp at hx;omega) (by simp;omega) fun v2 es2 G2 h2 r2 e2=>?_
  have e2:es2.length=es1.length+10:=e2
  exact h2.made k r2 (by omega) (by omega)
theorem nm_bridge (k:NamK 10 40 H0 K) (h:NmS H0 H v []):F79.B50 K H0.length v H:=by
 unfold F79.B50 F79.L46
 refine ⟨fun x2 x4 x13 G=>H0.length=x2∧∃ (i:Nat) (es:List (Int × Int)),x13=5*(i:Int)∧i≤2∧NmS H0 G x4 es∧EdR 10 es∧es.length=7*i,fun _ _ x13 _=>10-x13.toNat,⟨rfl,0,[],rfl,by omega,h,.nil,rfl⟩,?_⟩
 rintro x2 x4 x13 G ⟨rfl,i,es,rfl,hi,hS,hE,hl⟩
 unfold F79.B49
 refine pif_cases (fun hb=>?_) fun hb=>?_
 ·have hlt:=of_decide_eq_true hb
  unfold F79.B48
  obtain ⟨x,hx⟩:∃ x,x=5*(i:Int):=⟨_,rfl⟩
  rw [← hx]
  rw [wrap_id (x:=x+1) (by omega) (by omega),wrap_id (x:=x+2) (by omega) (by omega),wrap_id (x:=x+3) (by omega) (by omega),wrap_id (x:=x+4) (by omega) (by omega)]
  refine hS.push [(x,x+2),(x,x+3),(x+1,x+2),(x+1,x+3),(x+2,x+3),(x,x+4),(x+1,x+4)] rfl rfl (by simp) (by simp;omega) fun v' G' h'=>?_
  unfold F79.B47
  rw [wrap_id (by omega) (by omega)]
  exact ⟨⟨rfl,i+1,_,by omega,by omega,h',hE.app (by refine .cons ?_ ?_ (.cons ?_ ?_ (.cons ?_ ?_ (.cons ?_ ?_ (.cons ?_ ?_ (.cons ?_ ?_ (.cons ?_ ?_ .nil)))))) <;> omega),by simp;omega⟩,by show 10-(x+5).toNat<10-x.toNat;omega⟩
 ·have hge:=of_decide_eq_false hb
  unfold F79.B45
  refine hS.push [(4,9)] rfl rfl (by simp) (by simp;omega) fun v' G' h'=>?_
  exact h'.made k (n:=10) (hE.app (.cons (by decide) (by decide) .nil)) (by simp) (by simp;omega)
theorem named_start {nm:ByteArray} (h:∀ H1 v,NmS H H1 v []→F79.B60 K nm H.length v H1):AC Tryz.prog T0 79 [.string nm] H K:=by
 apply F79.ac
 unfold F79.B62
 refine newK_f rfl fun H1 l1 n1 o1=>?_
 unfold F79.B61
 refine newK_f rfl fun H2 l2 n2 o2=>?_
 exact h H2 _ ⟨.of_le (AHeap.le_trans l1 l2),o1.le l2,.inr ⟨_,0,by omega,rfl,o2,rfl⟩⟩
theorem named_petersen (k:NamK 10 15 H K):AC Tryz.prog T0 79 [.string ⟨#[112,101,116,101,114,115,101,110]⟩] H K:=by
 refine named_start fun H1 v h=>?_
 unfold F79.B60 F79.B59
 refine pif_f (by decide +kernel) ?_
 unfold F79.B58
 refine pif_f (by decide +kernel) ?_
 unfold F79.B57
 refine pif_f (by decide +kernel) ?_
 unfold F79.B56
 refine pif_f (by decide +kernel) ?_
 unfold F79.B55
 refine pif_f (by decide +kernel) ?_
 unfold F79.B54
 exact pif_t (by decide +kernel) (nm_petersen k h)
theorem nm_tietze (k:NamK 12 40 H0 K) (h:NmS H0 H v []):F79.B37 K H0.length v H:=by
 unfold F79.B37
 refine named_petersen fun v0 es0 G0 l0 f0 g0 c0=>tup2_mk (agg2_mk (asI_mk (asB_mk (newK_f rfl fun H2 l2 n2 o2=>stK_f (new:=[.int .i64 10,v0]) o2 (by simp) (mem_iv (fresh_one f0)) rfl fun H3 b3 o3=>?_))))
 have l3:G0.le H3:=b3.le l2 (Nat.le_refl _)
 have h3:=h.le (AHeap.le_trans l0 l3)
 have f3:=f0.le l3
 have hl0:=l0.1
 unfold F79.B36 F79.L31
 refine ⟨fun x2 x4 x9 x11 G=>H0.length=x2∧G0.length=x9∧∃ (i:Nat) (es:List (Int × Int)),x11=i∧i≤es0.length∧NmS H0 G x4 es∧EdR 12 es∧es.length≤i∧Own G G0.length 26 [.int .i64 10,v0]∧Fresh H.length G v0 84 2 (LE es0)∧∀ b,bk x4=some b→b≠G0.length∧bk v0≠some b,fun _ _ _ x11 _=>es0.length-x11.toNat,⟨rfl,rfl,0,[],rfl,by omega,h3,.nil,by simp,o3,f3,fun b hb=>?_⟩,?_⟩
 ·have h4:=(h.f.bk_lt hb).2
  exact ⟨by omega,fun e=>by have:=(f0.bk_lt e).1;omega⟩
 rintro x2 x4 x9 x11 G ⟨rfl,rfl,i,es,rfl,hi,hS,hE,hl,oG,fG,hbk⟩
 have eG:=fG.edges
 unfold F79.B35
 refine ld1_own oG rfl (eG.len (pif_cases (fun hb=>?_) fun hb=>?_))
 ·have hlt:i<es0.length:=by have:=of_decide_eq_true hb;omega
  have hm:es0.getD i (0,0)∈es0:=by rw [getD_of hlt];exact List.getElem_mem _
  have hr:=g0.rng _ hm
  have hr12:EdR 12 (es++[es0.getD i (0,0)]):=fun e he=>by
   rcases List.mem_append.1 he with he|he
   ·exact hE e he
   ·rw [List.mem_singleton.1 he];omega
  obtain ⟨bb,oo,hk,q1,q2⟩:=eG.idx (show (0:Int)≤i by omega) (by omega)
  simp only [Int.toNat_natCast] at q1 q2
  unfold F79.B34
  refine ld1_own oG rfl (hk _ (ldI_mk q1 (pif_cases (fun hc=>?_) fun hc=>?_)))
  ·unfold F79.B33
   refine ld1_own oG rfl (hk _ (ldI_mk q1 (ldI_mk q2 ?_)))
   refine push_edge (x:=es0.getD i (0,0)) hS.f hS.len (by omega) fun v' G' k1 ot nb f'=>?_
   unfold F79.B32
   rw [wrap_id (by omega) (by omega)]
   refine ⟨⟨rfl,rfl,i+1,_,by omega,by omega,⟨hS.kp.trans k1,k1.own hS.ob (Nat.lt_succ_self _),f'⟩,hr12,by simp;omega,ot _ _ (fun e=>(hbk _ e).1 rfl) oG,fresh_oth fG fun b o hb ho=>ot b o (fun e=>(hbk b e).2 hb) ho,fun b hb=>?_⟩,by simp;omega⟩
   have h4:=nb b hb
   have h5:=oG.lt
   exact ⟨by omega,fun e=>by have:=(fG.bk_lt e).2;omega⟩
  ·unfold F79.B32
   rw [wrap_id (by omega) (by omega)]
   exact ⟨⟨rfl,rfl,i+1,es,by omega,by omega,hS,hE,by omega,oG,fG,hbk⟩,by simp;omega⟩
 ·unfold F79.B30
  refine hS.cyc (n:=12) [0,10,11] rfl rfl hE (fun x hx=>by simp at hx;omega) (by simp;omega) fun v1 es1 G1 h1 r1 e1=>?_
  have e1:es1.length=es.length+3:=e1
  unfold F79.B29
  refine h1.push [(0,1),(10,4),(11,5)] rfl rfl (by simp) (by simp;omega) fun v2 G2 h2=>?_
  exact h2.made k (n:=12) (r1.app (by refine .cons ?_ ?_ (.cons ?_ ?_ (.cons ?_ ?_ .nil)) <;> decide)) (by simp) (by simp;omega)
def nameL:List ByteArray:=[⟨#[116,104,101,116,97]⟩,⟨#[107,52]⟩,⟨#[107,51,51]⟩,⟨#[112,114,105,115,109]⟩,⟨#[99,117,98,101]⟩,⟨#[112,101,116,101,114,115,101,110]⟩,⟨#[116,105,101,116,122,101]⟩,⟨#[102,108,111,119,101,114,53]⟩,⟨#[98,114,105,100,103,101]⟩]
theorem named_tietze (k:NamK 12 40 H K):AC Tryz.prog T0 79 [.string ⟨#[116,105,101,116,122,101]⟩] H K:=by
 refine named_start fun H1 v h=>?_
 unfold F79.B60 F79.B59
 refine pif_f (by decide +kernel) ?_
 unfold F79.B58
 refine pif_f (by decide +kernel) ?_
 unfold F79.B57
 refine pif_f (by decide +kernel) ?_
 unfold F79.B56
 refine pif_f (by decide +kernel) ?_
 unfold F79.B55
 refine pif_f (by decide +kernel) ?_
 unfold F79.B54
 refine pif_f (by decide +kernel) ?_
 unfold F79.B53
 exact pif_t (by decide +kernel) (nm_tietze k h)
theorem l01Named_ok {nm:ByteArray} (hn:nm∈nameL) (k:∀ n,2≤n→n≤20→NamK n 40 H K):AC Tryz.prog T0 79 [.string nm] H K:=by
 unfold nameL at hn
 simp only [List.mem_cons,List.not_mem_nil,or_false] at hn
 rcases hn with rfl|rfl|rfl|rfl|rfl|rfl|rfl|rfl|rfl
 ·refine named_start fun H1 v h=>?_
  unfold F79.B60 F79.B59
  exact pif_t (by decide +kernel) (nm_theta (k 2 (by decide) (by decide)) h)
 ·refine named_start fun H1 v h=>?_
  unfold F79.B60 F79.B59
  refine pif_f (by decide +kernel) ?_
  unfold F79.B58
  exact pif_t (by decide +kernel) (nm_k4 (k 4 (by decide) (by decide)) h)
 ·refine named_start fun H1 v h=>?_
  unfold F79.B60 F79.B59
  refine pif_f (by decide +kernel) ?_
  unfold F79.B58
  refine pif_f (by decide +kernel) ?_
  unfold F79.B57
  exact pif_t (by decide +kernel) (nm_k33 (k 6 (by decide) (by decide)) h)
 ·refine named_start fun H1 v h=>?_
  unfold F79.B60 F79.B59
  refine pif_f (by decide +kernel) ?_
  unfold F79.B58
  refine pif_f (by decide +kernel) ?_
  unfold F79.B57
  refine pif_f (by decide +kernel) ?_
  unfold F79.B56
  exact pif_t (by decide +kernel) (nm_prism (k 6 (by decide) (by decide)) h)
 ·refine named_start fun H1 v h=>?_
  unfold F79.B60 F79.B59
  refine pif_f (by decide +kernel) ?_
  unfold F79.B58
  refine pif_f (by decide +kernel) ?_
  unfold F79.B57
  refine pif_f (by decide +kernel) ?_
  unfold F79.B56
  refine pif_f (by decide +kernel) ?_
  unfold F79.B55
  exact pif_t (by decide +kernel) (nm_cube (k 8 (by decide) (by decide)) h)
 ·exact named_petersen fun v es G l f g c=>k 10 (by decide) (by decide) v es G l f g (by omega)
 ·exact named_tietze (k 12 (by decide) (by decide))
 ·refine named_start fun H1 v h=>?_
  unfold F79.B60 F79.B59
  refine pif_f (by decide +kernel) ?_
  unfold F79.B58
  refine pif_f (by decide +kernel) ?_
  unfold F79.B57
  refine pif_f (by decide +kernel) ?_
  unfold F79.B56
  refine pif_f (by decide +kernel) ?_
  unfold F79.B55
  refine pif_f (by decide +kernel) ?_
  unfold F79.B54
  refine pif_f (by decide +kernel) ?_
  unfold F79.B53
  refine pif_f (by decide +kernel) ?_
  unfold F79.B52
  exact pif_t (by decide +kernel) (nm_flower (k 20 (by decide) (by decide)) h)
 ·refine named_start fun H1 v h=>?_
  unfold F79.B60 F79.B59
  refine pif_f (by decide +kernel) ?_
  unfold F79.B58
  refine pif_f (by decide +kernel) ?_
  unfold F79.B57
  refine pif_f (by decide +kernel) ?_
  unfold F79.B56
  refine pif_f (by decide +kernel) ?_
  unfold F79.B55
  refine pif_f (by decide +kernel) ?_
  unfold F79.B54
  refine pif_f (by decide +kernel) ?_
  unfold F79.B53
  refine pif_f (by decide +kernel) ?_
  unfold F79.B52
  refine pif_f (by decide +kernel) ?_
  unfold F79.B51
  exact pif_t (by decide +kernel) (nm_bridge (k 10 (by decide) (by decide)) h)
end Go.Proofs
namespace Go.Proofs
open Go.Abs

variable {H G G' Hb H0:AHeap} {v u f w:Value} {l m D:List Int} {es fs:List (Int × Int)} {K:Value→AHeap→Prop} {bs:Nat} {n:Int}

theorem sl_edges {m0:Nat} {t:TypeId} (h:Sl m0 H v t 2 (LE es)):Edges H v es:=by
 rcases h with ⟨h1,h2⟩|⟨b,n,pre,post,h1,rfl,h3,h4⟩
 ·have:es=[]:=by
   cases es with
   | nil=>rfl
   | cons x l=>rw [LE_cons] at h1;cases h1
  subst this
  rcases h2 with rfl|⟨a,rfl⟩
  ·exact .inl ⟨rfl,rfl⟩
  ·exact .inr ⟨a,0,rfl,.inl rfl⟩
 ·have hn:n=es.length:=by rw [LE_length] at h4;omega
  subst hn
  refine .inr ⟨_,_,rfl,.inr ⟨rfl,fun i x hx=>?_⟩⟩
  have hi:i<es.length:=lt_of_get hx
  have hg:=LE_get es i x hx
  have key:∀ j,j<(LE es).length→H.cell b (pre.length+j)=(LE es)[j]?:=fun j hj=>by
   rw [h3.cell,List.append_assoc,List.getElem?_append_right (Nat.le_add_right _ _),Nat.add_sub_cancel_left,List.getElem?_append_left hj]
  have hl:=LE_length es
  refine ⟨?_,?_⟩
  ·rw [key _ (by omega)];exact hg.1
  ·rw [Nat.add_assoc,key _ (by omega)];exact hg.2
theorem Src.but {x:Nat} (h:Src Hb bs G) (b:But x G G') (hx:bs<x):Src Hb bs G':=by
 obtain ⟨h1,h2,cv,l,a,y,h3,h4,h5,h6,h7⟩:=h
 exact ⟨b.le h1 (by omega),h2,cv,l,a,y,h3,h4,b.own h5 (by omega),h6,h7⟩
theorem Kb.but {x:Nat} (h:Kb bs H G) (b:But x G G') (hx:H.length≤x):Kb bs H G':=⟨by rw [b.len];exact h.len,fun q o hq ho=>by
 have:=lt_of_get ho
 rw [b.same q (by omega)];exact h.old q o hq ho⟩
theorem Kb.own {b:Nat} {t:TypeId} {cs:List Value} (h:Kb bs H G) (o:Own H b t cs) (hb:b≠bs):Own G b t cs:=h.old b _ hb o
theorem fresh_kb {m0:Nat} {t:TypeId} {z:Nat} {cs:List Value} (h:Fresh m0 H v t z cs) (k:Kb bs H G) (hm:bs<m0):Fresh m0 G v t z cs:=fresh_oth h fun b o hb ho=>k.old b o (by have:=(h.bk_lt hb).1;omega) ho
theorem draw_tail {x2:Nat} (s:Src Hb bs G) (kb:Kb bs H G) (hbs:bs<x2) (hx:H.length≤x2) (ob:Own G x2 26 [.int .i64 0,.slice none 0 0]) (h1:v.oneCell'=true) (k:∀ G',But x2 G G'→Kb bs H G'→Src Hb bs G'→K (.agg ⟨[.int .i64 n,v]⟩) G') :
 stK G x2 0 [.int .i64 n,v] (fun H7=>ldI .i64 H7 x2 0 (fun v8=>ld1 H7 x2 1 (fun v9=>K (.agg ⟨[.int .i64 v8,v9]⟩) H7))):=by
 refine stK_f (new:=[.int .i64 n,v]) ob (by simp) (mem_iv h1) rfl fun G5 b5 o5=>ldI_own o5 rfl (ld1_own o5 rfl ?_)
 exact k G5 b5 (kb.but b5 hx) (s.but b5 hbs)
structure Gd2 (n:Int) (es:List (Int × Int)):Prop where
 pos:0<es.length
 len:es.length≤2000
 rng:EdR n es
 lo:2≤n
 hi:n≤200
theorem name_get {i c:Nat} (h:i<c) (hc:c≤9):∃ nm∈nameL,((nameL.take c).map Value.string)[i]?=some (.string nm):=by
 have hi:i<nameL.length:=by have:nameL.length=9:=rfl;omega
 refine ⟨nameL[i],List.getElem_mem hi,?_⟩
 rw [List.getElem?_map,List.getElem?_take_of_lt h,List.getElem?_eq_getElem hi];rfl
theorem l01Small_ok (hs:Src Hb bs H) (k:∀ v' n es G,Kb bs H G→Src Hb bs G→Fresh H.length G v' 84 2 (LE es)→Gd n es→2≤n→n≤20→K (.agg ⟨[.int .i64 n,v']⟩) G) :
 AC Tryz.prog T0 68 [.pointer (some ⟨bs,0,none⟩)] H K:=by
 have hbs:=hs.lt
 apply F68.ac
 unfold F68.B6
 refine newK_f rfl fun H1 l1 n1 o1=>?_
 unfold F68.B5
 refine l01Next_ok (hs.le l1) fun r G1 k1 s1 r0 r1 _=>asI_mk (pif_cases (fun hb=>?_) fun hb=>?_)
 ·unfold F68.B4
  have kb1:Kb bs H G1:=(Kb.of_le l1).trans k1
  have ob1:=k1.own o1 (by omega)
  refine newK_f rfl fun G2 l2 n2 o2=>?_
  have kb2:=kb1.trans (.of_le l2)
  have hG1:=kb1.len
  unfold F68.B3
  refine lenK_of (l01Next_ok (s1.le l2) fun r' G3 k3 s3 r0' r1' _=>asI_mk ?_)
  have hr:=r1' (by decide)
  obtain ⟨nm,hnm,hget⟩:=name_get (i:=r'.toNat) (c:=6) (by omega) (by decide)
  have o3:=k3.own o2 (by omega)
  have kb3:=kb2.trans k3
  have hG3:=kb3.len
  have ob3:=k3.own (ob1.le l2) (by omega)
  refine own_idx r0' hr (ld1_own o3 hget (asS_mk (l01Named_ok hnm fun n a0 a1 v0 es0 G4 l4 f4 g4 c4=>tup2_mk (agg2_mk (asI_mk (asB_mk (newK_f rfl fun G5 l5 n5 o5=>stK_f (new:=[.int .i64 n,v0]) o5 (by simp) (mem_iv (fresh_one f4)) rfl fun G6 b6 o6=>?_)))))))
  have l6:G4.le G6:=b6.le l5 (Nat.le_refl _)
  have l36:=AHeap.le_trans l4 l6
  have f6:=f4.le l6
  have s6:=s3.le l36
  have ob6:=ob3.le l36
  have kb6:=kb3.trans (.of_le l36)
  have hG6:=kb6.len
  have hl4:=l4.1
  unfold F68.B2
  refine ldI_own o6 rfl (ld1_own o6 rfl (ldI_own o6 rfl (l01DrawOrder_ok s6 (by omega) fun w D G7 k7 s7 f7 hDl hDr=>?_)))
  have o7:=k7.own o6 (by omega)
  have ob7:=k7.own ob6 (by omega)
  have kb7:=kb6.trans k7
  have f67:=fresh_kb f6 k7 (by omega)
  refine ⟨ldI_own o7 rfl (ld1_own o7 rfl ⟨rfl,rfl⟩),?_⟩
  refine l01Renamed_ok f67.edges g4 f7.ints hDl hDr fun v' es' G8 l8 f8 g8=>agg2_mk (asI_mk (draw_tail (s7.le l8) (kb7.trans (.of_le l8)) hbs (Nat.le_refl _) (ob7.le l8) (fresh_one f8) fun G9 b9 kb9 s9=>?_))
  have hG7:=ob7.lt
  exact k v' n es' G9 kb9 s9 (f8.but b9 (by omega) |>.less (by omega)) g8 a0 a1
 ·unfold F68.B1
  have kb1:Kb bs H G1:=(Kb.of_le l1).trans k1
  have ob1:=k1.own o1 (by omega)
  have hG1:=k1.len
  refine newK_f rfl fun G2 l2 n2 o2=>?_
  refine l01Pick_ok (l:=[2,4,4,6,6,8,8,10]) (s1.le l2) (own_ints (l:=[2,4,4,6,6,8,8,10]) o2) (by decide) (by decide) (fun x hx=>by simp at hx;omega) (fun G3 k3=>own_ints (l:=[2,4,4,6,6,8,8,10]) (k3.own o2 (by omega))) fun r' G3 k3 s3 hr=>asI_mk ?_
  have hr:2≤r'∧r'≤10∧r'%2=0:=by simp at hr;omega
  have kb3:=(kb1.trans (.of_le l2)).trans k3
  have ob3:=k3.own (ob1.le l2) (by omega)
  have hG3:=k3.len
  have hG2:=l2.1
  refine l01DrawOf_ok s3 hr.1 (by omega) hr.2.2 fun v' es' G4 k4 s4 f4 g4=>agg2_mk (asI_mk (draw_tail s4 (kb3.trans k4) hbs (Nat.le_refl _) (k4.own ob3 (by omega)) (fresh_one f4) fun G9 b9 kb9 s9=>?_))
  exact k v' r' es' G9 kb9 s9 (f4.but b9 (by omega) |>.less (by omega)) g4 hr.1 (by omega)
theorem l01Beside_ok {n2:Int} (h:Edges H v es) (g:Edges H w fs) (hg:Gd n es) (hf:Gd n2 fs) (a0:2≤n) (a1:n≤100) (b0:2≤n2) (b1:n2≤100) (k:∀ v' es' G,H.le G→Fresh H.length G v' 84 2 (LE es')→Gd2 (n+n2) es'→K (.agg ⟨[.int .i64 (n+n2),v']⟩) G) :
 AC Tryz.prog T0 82 [.agg ⟨[.int .i64 n,v]⟩,.agg ⟨[.int .i64 n2,w]⟩] H K:=by
 have gl:=hg.len;have fl:=hf.len;have gp:=hg.pos
 apply F82.ac
 unfold F82.B8
 refine newK_f (all_iv (edges_one' h)) fun H1 l1 n1 o1=>newK_f (all_iv (edges_one' g)) fun H2 l2 n2' o2=>newK_f rfl fun H3 l3 n3 o3=>?_
 have o13:=(o1.le l2).le l3
 have o23:=o2.le l3
 have l03:=AHeap.le_trans l1 (AHeap.le_trans l2 l3)
 have hl03:=l03.1
 unfold F82.B7
 refine newK_f rfl fun H4 l4 n4 o4=>ld1_own (o13.le l4) rfl ?_
 have l04:=AHeap.le_trans l03 l4
 refine app_edges (m0:=H3.length) (es:=[]) (Fresh.sl (.inr ⟨_,0,Nat.le_refl _,rfl,o4,rfl⟩)) l4.1 (h.le l04) gp (by simp;omega) fun v5 H5 k5 _ f5=>?_
 have kp5:=(Keep.of_le l4).trans k5
 rw [List.nil_append] at f5
 unfold F82.B6 F82.L2
 refine ⟨fun x2 x3 x4 x5 x6 G=>H.length=x2∧H1.length=x3∧H2.length=x4∧Keep H3.length H3 G∧∃ (i:Nat) (es':List (Int × Int)),x6=i∧i≤fs.length∧Fresh H3.length G x5 84 2 (LE es')∧EdR (n+n2) es'∧es'.length=es.length+i,fun _ _ _ _ x6 _=>fs.length-x6.toNat,⟨rfl,rfl,rfl,kp5,0,es,rfl,by omega,f5,hg.rng.up (by omega),rfl⟩,?_⟩
 rintro x2 x3 x4 x5 x6 G ⟨rfl,rfl,rfl,kp,i,es',rfl,hi,hF,hE,hl⟩
 have lG:H.le G:=kp.le l03 hl03
 have p1:=kp.own o13 (o13.lt);have p2:=kp.own o23 (o23.lt);have p3:=kp.own o3 (o3.lt)
 have hgG:=g.le lG
 unfold F82.B5
 refine ld1_own p2 rfl (hgG.len (pif_cases (fun hb=>?_) fun hb=>?_))
 ·have hlt:i<fs.length:=by have:=of_decide_eq_true hb;omega
  have hm:fs.getD i (0,0)∈fs:=by rw [getD_of hlt];exact List.getElem_mem _
  have hr:=hf.rng _ hm
  obtain ⟨bb,oo,hk,q1,q2⟩:=hgG.idx (show (0:Int)≤i by omega) (by omega)
  simp only [Int.toNat_natCast] at q1 q2
  unfold F82.B4
  refine ld1_own p2 rfl (hk _ (ldI_mk q1 (ldI_own p1 rfl (ld1_own p2 rfl (hk _ (ldI_mk q2 (ldI_own p1 rfl ?_)))))))
  rw [wrap_id (by omega) (by omega),wrap_id (by omega) (by omega)]
  refine push_edge (x:=((fs.getD i (0,0)).1+n,(fs.getD i (0,0)).2+n)) hF kp.len (by omega) fun v3 G4 k4 _ _ f4=>?_
  unfold F82.B3
  rw [wrap_id (by omega) (by omega)]
  exact ⟨⟨rfl,rfl,rfl,kp.trans k4,i+1,_,by omega,by omega,f4,hE.snoc ⟨by omega,by omega⟩ ⟨by omega,by omega⟩,by simp;omega⟩,by simp;omega⟩
 ·have hge:=of_decide_eq_false hb
  unfold F82.B1
  refine ldI_own p1 rfl (ldI_own p2 rfl ?_)
  rw [wrap_id (by omega) (by omega)]
  refine l01Made_ok hF.edges (by omega) fun v' G2 l2' f2=>agg2_mk (asI_mk ?_)
  have hkl:=kp.len
  refine stK_f (new:=[.int .i64 (n+n2),v']) (p3.le l2') (by simp) (mem_iv (fresh_one f2)) rfl fun G5 b5 o5=>ldI_own o5 rfl (ld1_own o5 rfl ?_)
  have h3:=o3.lt
  have h12:=l1.1
  have h22:=l2.1
  exact k v' _ G5 (b5.le (AHeap.le_trans lG l2') (by omega)) ((f2.but b5 (by omega)).less (by omega)) ⟨by rw [srtE_length,List.length_map];omega,by rw [srtE_length,List.length_map];omega,hE.made,by omega,by omega⟩
theorem Gd.two (h:Gd n es) (a:2≤n) (b:n≤200):Gd2 n es:=⟨h.pos,by have:=h.len;omega,h.rng,a,b⟩
theorem l01Draw_ok (hs:Src Hb bs H) (k:∀ v' n es G,Kb bs H G→Src Hb bs G→Fresh H.length G v' 84 2 (LE es)→Gd2 n es→K (.agg ⟨[.int .i64 n,v']⟩) G) :
 AC Tryz.prog T0 49 [.pointer (some ⟨bs,0,none⟩)] H K:=by
 have hbs:=hs.lt
 apply F49.ac
 unfold F49.B8
 refine newK_f rfl fun H1 l1 n1 o1=>?_
 unfold F49.B7
 refine l01Next_ok (hs.le l1) fun r G1 k1 s1 r0 r1 _=>asI_mk ?_
 have kb1:Kb bs H G1:=(Kb.of_le l1).trans k1
 have ob1:=k1.own o1 (by omega)
 have hG1:=k1.len
 refine pif_cases (fun hb=>?_) fun hb=>?_
 ·unfold F49.B6
  apply F78.ac
  unfold F78.B2 F78.B1
  refine newK_f rfl fun G2 l2 n2 o2=>?_
  have kb2:=kb1.trans (.of_le l2)
  unfold F49.B5
  refine lenK_of (l01Next_ok (s1.le l2) fun r' G3 k3 s3 r0' r1' _=>asI_mk ?_)
  have hr:=r1' (by decide)
  obtain ⟨nm,hnm,hget⟩:=name_get (i:=r'.toNat) (c:=9) (by omega) (by decide)
  have o3:=k3.own o2 (by omega)
  have kb3:=kb2.trans k3
  have hG3:=kb3.len
  have ob3:=k3.own (ob1.le l2) (by omega)
  refine own_idx r0' hr (ld1_own o3 hget (asS_mk (l01Named_ok hnm fun n a0 a1 v0 es0 G4 l4 f4 g4 c4=>tup2_mk (agg2_mk (asI_mk (asB_mk (newK_f rfl fun G5 l5 n5 o5=>stK_f (new:=[.int .i64 n,v0]) o5 (by simp) (mem_iv (fresh_one f4)) rfl fun G6 b6 o6=>?_)))))))
  have l6:G4.le G6:=b6.le l5 (Nat.le_refl _)
  have l36:=AHeap.le_trans l4 l6
  have f6:=f4.le l6
  have s6:=s3.le l36
  have ob6:=ob3.le l36
  have kb6:=kb3.trans (.of_le l36)
  have hG6:=kb6.len
  have hl4:=l4.1
  unfold F49.B4
  refine ldI_own o6 rfl (ld1_own o6 rfl (ldI_own o6 rfl (l01DrawOrder_ok s6 (by omega) fun w D G7 k7 s7 f7 hDl hDr=>?_)))
  have o7:=k7.own o6 (by omega)
  have ob7:=k7.own ob6 (by omega)
  have kb7:=kb6.trans k7
  have f67:=fresh_kb f6 k7 (by omega)
  refine ⟨ldI_own o7 rfl (ld1_own o7 rfl ⟨rfl,rfl⟩),?_⟩
  refine l01Renamed_ok f67.edges g4 f7.ints hDl hDr fun v' es' G8 l8 f8 g8=>agg2_mk (asI_mk (draw_tail (s7.le l8) (kb7.trans (.of_le l8)) hbs (Nat.le_refl _) (ob7.le l8) (fresh_one f8) fun G9 b9 kb9 s9=>?_))
  have hG7:=ob7.lt
  exact k v' n es' G9 kb9 s9 (f8.but b9 (by omega) |>.less (by omega)) (g8.two a0 (by omega))
 ·unfold F49.B3
  refine l01Next_ok s1 fun r' G2 k2 s2 r0' r1' _=>asI_mk ?_
  have kb2:=kb1.trans k2
  have ob2:=k2.own ob1 (by omega)
  have hG2:=k2.len
  refine pif_cases (fun hb=>?_) fun hb=>?_
  ·unfold F49.B2
   refine l01Small_ok s2 fun va na ea G3 k3 s3 f3 g3 a0 a1=>agg2_mk (asI_mk ?_)
   have hG3:=k3.len
   refine l01Small_ok s3 fun vb nb eb G4 k4 s4 f4 g4 b0 b1=>agg2_mk (asI_mk ?_)
   have f34:=fresh_kb f3 k4 (by omega)
   have kb4:=(kb2.trans k3).trans k4
   have ob4:=k4.own (k3.own ob2 (by omega)) (by omega)
   have hG4:=k4.len
   refine l01Beside_ok f34.edges f4.edges g3 g4 a0 (by omega) b0 (by omega) fun v' es' G8 l8 f8 g8=>agg2_mk (asI_mk (draw_tail (s4.le l8) (kb4.trans (.of_le l8)) hbs (Nat.le_refl _) (ob4.le l8) (fresh_one f8) fun G9 b9 kb9 s9=>?_))
   exact k v' _ es' G9 kb9 s9 (f8.but b9 (by omega) |>.less (by omega)) g8
  ·unfold F49.B1
   refine newK_f rfl fun G3 l3 n3 o3=>?_
   refine l01Pick_ok (l:=[2,4,6,8,10,12,14,20]) (s2.le l3) (own_ints (l:=[2,4,6,8,10,12,14,20]) o3) (by decide) (by decide) (fun x hx=>by simp at hx;omega) (fun G3 k3=>own_ints (l:=[2,4,6,8,10,12,14,20]) (k3.own o3 (by omega))) fun r' G4 k4 s4 hr=>asI_mk ?_
   have hr:2≤r'∧r'≤20∧r'%2=0:=by simp at hr;omega
   have kb4:=(kb2.trans (.of_le l3)).trans k4
   have ob4:=k4.own (ob2.le l3) (by omega)
   have hG4:=k4.len
   have hG3:=l3.1
   refine l01DrawOf_ok s4 hr.1 (by omega) hr.2.2 fun v' es' G5 k5 s5 f5 g5=>agg2_mk (asI_mk (draw_tail s5 (kb4.trans k5) hbs (Nat.le_refl _) (k5.own ob4 (by omega)) (fresh_one f5) fun G9 b9 kb9 s9=>?_))
   exact k v' r' es' G9 kb9 s9 (f5.but b9 (by omega) |>.less (by omega)) (g5.two hr.1 (by omega))
end Go.Proofs
namespace Go.Proofs
open Go.Abs

variable {H:AHeap} {v u f:Value} {l m c:List Int} {es fs:List (Int × Int)} {K:Value→AHeap→Prop}

theorem isColouring_any {n:Int} (h:Edges H v es) (hl:es.length≤1048576) (hc:Ints H u c) (hcl:c.length≤1048576) (k:∀ G,H.le G→K (.bool (decide (IsG n es∧IsC es c))) G) :
 AC Tryz.prog T0 47 [.agg ⟨[.int .i64 n,v]⟩,u] H K:=by
 by_cases hg:IsG n es
 ·refine isColouring_ok h hl hg hc hcl fun G hG=>?_
  have k:=k G hG
  rw [show decide (IsG n es∧IsC es c)=decide (IsC es c) from decide_eq_decide.2 ⟨fun h=>h.2,fun h=>⟨hg,h⟩⟩] at k
  exact k
 ·apply F47.ac
  unfold F47.B18
  refine newK_f (all_iv (edges_one' h)) fun H1 l1 n1 o1=>?_
  unfold F47.B17
  refine ldI_own o1 rfl (ld1_own o1 rfl (IsGraph_ok (h.le l1) hl fun H2 l2=>asB_mk (pif_t (by rw [decide_eq_false hg];rfl) ?_)))
  unfold F47.B16
  have k:=k _ (AHeap.le_trans l1 l2)
  rw [decide_eq_false fun h=>hg h.1] at k
  exact k
theorem IsC.get {es:List (Int × Int)} {c:List Int} (h:IsC es c) (i:Nat):0≤c.getD i 0∧c.getD i 0≤2:=by
 by_cases hi:i<c.length
 ·rw [getD_of hi];exact h.rng _ (List.getElem_mem hi)
 ·simp [List.getD,List.getElem?_eq_none (show c.length≤i by omega)]
end Go.Proofs
namespace Go.Proofs
open Go.Abs

variable {H G:AHeap} {v u f w:Value} {l m c:List Int} {es fs:List (Int × Int)} {K:Value→AHeap→Prop} {ls L:List (List Int)} {bm:Nat}

theorem sl_but2 {m0 b:Nat} {t:TypeId} {z:Nat} {cs:List Value} (h:Sl m0 H v t z cs) (hb:But b H G) (hv:bk v≠some b):Sl m0 G v t z cs:=by
 rcases h with h|⟨b',n,pre,post,h1,rfl,h3,h4⟩
 ·exact .inl h
 ·exact .inr ⟨b',n,pre,post,h1,rfl,hb.own h3 (fun e=>hv (by rw [e];rfl)),h4⟩
end Go.Proofs
namespace Go.Proofs
open Go.Abs

variable {H G G' Hb H0:AHeap} {v u f w:Value} {l m D:List Int} {es fs:List (Int × Int)} {K:Value→AHeap→Prop} {bs:Nat} {n:Int}

theorem sl_kb {t:TypeId} {z:Nat} {cs:List Value} (h:Sl (bs+1) H v t z cs) (k:Kb bs H G):Sl (bs+1) G v t z cs:=by
 rcases h with h|⟨b,n,pre,post,h1,h2,h3,h4⟩
 ·exact .inl h
 ·exact .inr ⟨b,n,pre,post,h1,h2,k.old b _ (by omega) h3,h4⟩
theorem sl_one {m0:Nat} {t:TypeId} {z:Nat} {cs:List Value} (h:Sl m0 H v t z cs):v.oneCell'=true:=by
 rcases h with ⟨_,rfl|⟨a,rfl⟩⟩|⟨b,n,pre,post,_,rfl,_⟩ <;> rfl
theorem LE_drop:∀ (l:List (Int × Int)),(LE l).drop 2=LE (l.drop 1)
 | []=>rfl
 | x::l=>rfl
theorem put_edge {m0:Nat} {r a b:Int} {K:AHeap→Prop} (f:Fresh m0 G v 84 2 (LE es)) (h0:0≤r) (h1:r<es.length) (k:∀ c G',m0≤c→bk v=some c→But c G G'→Fresh m0 G' v 84 2 (LE (es.set r.toNat (a,b)))→K G') :
 idxK v r 2 (fun bb oo=>stK G bb oo [.int .i64 a,.int .i64 b] K):=by
 have hlt:r.toNat<es.length:=by omega
 rcases f with ⟨h,_⟩|⟨c,q,hc,rfl,o,hq⟩
 ·have:=congrArg List.length h
  rw [LE_length,List.length_nil] at this;omega
 ·have hqe:q=es.length:=by rw [LE_length] at hq;omega
  subst hqe
  refine own_idx2 h0 h1 (stK_f o (by rw [LE_length];simp;omega) (by simp [Value.oneCell']) (LE_set es (a,b) hlt) fun G' b' o'=>k c G' hc rfl b' (.inr ⟨c,es.length,hc,rfl,o',by rw [LE_length,List.length_set]⟩))
structure BdS (Hb H:AHeap) (bs:Nat) (n:Int) (v:Value) (es:List (Int × Int)) (x5:Value) (fs:List (Int × Int)) (G:AHeap):Prop where
 kb:Kb bs H G
 s:Src Hb bs G
 o3:Own G H.length 26 [.int .i64 n,v]
 o4:Own G (H.length+1) 26 [.int .i64 0,.slice none 0 0]
 f:Fresh (H.length+2) G x5 84 2 (LE fs)
 lt:bs<H.length
theorem BdS.step {x5:Value} (h:BdS Hb H bs n v es x5 fs G) (k:Kb bs G G') (s:Src Hb bs G'):BdS Hb H bs n v es x5 fs G':=
 ⟨h.kb.trans k,s,k.own h.o3 (by have:=h.lt;omega),k.own h.o4 (by have:=h.lt;omega),fresh_kb h.f k (by have:=h.lt;omega),h.lt⟩
theorem BdS.le {x5:Value} (h:BdS Hb H bs n v es x5 fs G) (l:G.le G'):BdS Hb H bs n v es x5 fs G':=h.step (.of_le l) (h.s.le l)
theorem BdS.but {x5:Value} {c:Nat} {fs':List (Int × Int)} (h:BdS Hb H bs n v es x5 fs G) (b:But c G G') (hc:H.length+2≤c) (f:Fresh (H.length+2) G' x5 84 2 (LE fs')):BdS Hb H bs n v es x5 fs' G':=
 ⟨h.kb.but b (by omega),h.s.but b (by have:=h.lt;omega),b.own h.o3 (by omega),b.own h.o4 (by omega),f,h.lt⟩
theorem BdS.reread {x5:Value} (h:BdS Hb H bs n v es x5 fs G):ldI .i64 G H.length 0 (fun v7=>((Value.int .i64 v7)=(Value.int .i64 n))∧(G=G)):=ldI_own h.o3 rfl ⟨rfl,rfl⟩
def BadK (Hb H:AHeap) (bs:Nat) (v:Value) (K:Value→AHeap→Prop):Prop:=∀ v' n' es' G,Kb bs H G→Src Hb bs G→Sl (bs+1) G v' 84 2 (LE es')→(∀ b,bk v'=some b→bk v=some b∨H.length≤b)→es'.length≤2000→-2≤n'→n'≤202→K (.agg ⟨[.int .i64 n',v']⟩) G
theorem bad_put {x5:Value} {n':Int} {gs:List (Int × Int)} (k:BadK Hb H bs v K) (h:BdS Hb H bs n v es x5 fs G) (hs:Sl (bs+1) G w 84 2 (LE gs)) (hw:bk w≠some (H.length+1)) (hv:∀ b,bk w=some b→bk v=some b∨H.length≤b) (hl:gs.length≤2000) (h0:-2≤n') (h1:n'≤202) :
 stK G (H.length+1) 0 [.int .i64 n',w] (fun H7=>ldI .i64 H7 (H.length+1) 0 (fun v8=>ld1 H7 (H.length+1) 1 (fun v9=>K (.agg ⟨[.int .i64 v8,v9]⟩) H7))):=by
 have hbs:=h.lt
 exact draw_tail h.s h.kb (by omega) (by omega) h.o4 (sl_one hs) fun G9 b9 kb9 s9=>k w n' gs G9 kb9 s9 (sl_but2 hs b9 hw) hv hl h0 h1
theorem bad_B1 {x5 y:Value} {gs:List (Int × Int)} (k:BadK Hb H bs v K) (h:BdS Hb H bs n v es x5 fs G) (hs:Sl (H.length+2) G y 84 2 (LE gs)) (hl:gs.length≤2000) (h0:2≤n) (h1:n≤200):F48.B1 K H.length (H.length+1) y G:=by
 have hbs:=h.lt
 unfold F48.B1
 refine ldI_own h.o3 rfl (pif_t (sl_one hs) (bad_put k h (hs.less (by omega)) (fun e=>by have:=(hs.lt e).1;omega) (fun b e=>.inr (by have:=(hs.lt e).1;omega)) hl (by omega) (by omega)))
theorem l01Bad_ok (hs:Src Hb bs H) (h:Sl (bs+1) H v 84 2 (LE es)) (hg:Gd2 n es) (k:BadK Hb H bs v K) :
 AC Tryz.prog T0 48 [.pointer (some ⟨bs,0,none⟩),.agg ⟨[.int .i64 n,v]⟩] H K:=by
 have hbs:=hs.lt
 have gl:=hg.len;have gp:=hg.pos;have n0:=hg.lo;have n1:=hg.hi
 have hE:=sl_edges h
 apply F48.ac
 unfold F48.B15
 refine newK_f (all_iv (edges_one' hE)) fun H1 l1 m1 o1=>newK_f rfl fun H2 l2 m2 o2=>?_
 rw [m1] at o2 ⊢
 have o12:=o1.le l2
 have l02:=AHeap.le_trans l1 l2
 unfold F48.B14
 refine newK_f rfl fun H4 l4 n4 o4=>ld1_own (o12.le l4) rfl ?_
 have l04:=AHeap.le_trans l02 l4
 have e2:H2.length=H.length+2:=by rw [m2,m1]
 refine app_edges (m0:=H2.length) (es:=[]) (Fresh.sl (.inr ⟨_,0,Nat.le_refl _,rfl,o4,rfl⟩)) l4.1 (hE.le l04) gp (by simp;omega) fun x5 H5 k5 _ f5=>?_
 rw [List.nil_append] at f5
 have kp:=(Keep.of_le l4).trans k5
 have l05:H.le H5:=kp.le l02 l02.1
 unfold F48.B13
 have st5:BdS Hb H bs n v es x5 es H5:=⟨.of_le l05,hs.le l05,kp.own o12 o12.lt,kp.own o2 o2.lt,by rw [e2] at f5;exact f5,hbs⟩
 refine l01Next_ok st5.s fun r G1 k1 s1 r0 r1 _=>asI_mk ?_
 have st:=st5.step k1 s1
 have hvG:=sl_kb (h.le l05) k1
 have fin2:∀ G (r a b:Int),BdS Hb H bs n v es x5 es G→0≤r→r<es.length→idxK x5 r 2 (fun bb oo=>stK G bb oo [.int .i64 a,.int .i64 b] (fun H20=>F48.B1 K H.length (H.length+1) x5 H20)):=fun G r a b hS h0 h1=>
  put_edge hS.f h0 h1 fun c G' hc _ b' f'=>bad_B1 k (hS.but b' hc f') f'.sl (by rw [List.length_set];exact gl) n0 n1
 unfold F48.B12
 refine pif_cases (fun hb=>?_) fun hb=>?_
 ·unfold F48.B2
  refine ldI_own st.o3 rfl ?_
  rw [wrap_id (by omega) (by omega)]
  refine newK_f rfl fun G2 l2 n2 o2=>?_
  have hG1:=st.o4.lt
  refine l01Pick_ok (l:=[0,3,22,-2,n+2]) (st.le l2).s (own_ints (l:=[0,3,22,-2,n+2]) o2) (by simp) (by simp) (fun x hx=>by simp at hx;omega) (fun G3 k3=>own_ints (l:=[0,3,22,-2,n+2]) (k3.own o2 (by omega))) fun r' G3 k3 s3 hr=>asI_mk ?_
  have hr:-2≤r'∧r'≤202:=by simp at hr;omega
  have st3:=(st.le l2).step k3 s3
  refine pif_t (fresh_one st3.f) (bad_put k st3 (st3.f.sl.less (by omega)) (fun e=>by have:=(st3.f.bk_lt e).1;omega) (fun b e=>.inr (by have:=(st3.f.bk_lt e).1;omega)) gl hr.1 hr.2)
 unfold F48.B11
 refine pif_cases (fun hb=>?_) fun hb=>?_
 ·unfold F48.B3
  have hG1:=st.o4.lt
  have hlen:∀ {K:Nat→Prop},K es.length→lenK x5 K:=fun k'=>st.f.edges.len k'
  have pk:∀ {G2:AHeap} {b:Nat},Own G2 b 2 [.int .i64 (-1),.int .i64 n,.int .i64 0]→b≠bs→BdS Hb H bs n v es x5 es G2→∀ (Q:Value→AHeap→Prop),(∀ r' G3,BdS Hb H bs n v es x5 es G3→Q (.int .i64 r') G3)→AC Tryz.prog T0 56 [.pointer (some ⟨bs,0,none⟩),.slice (some ⟨b,0,none⟩) 3 (3+1)] G2 Q:=fun {G2 b} o hb st2 Q hQ=>by
   refine l01Pick_ok (l:=[-1,n,0]) st2.s (own_ints (l:=[-1,n,0]) o) (by simp) (by simp) (fun x hx=>by simp at hx;omega) (fun G3 k3=>own_ints (l:=[-1,n,0]) (k3.own o hb)) fun r' G3 k3 s3 hr=>hQ r' G3 (st2.step k3 s3)
  refine hlen (ldI_own st.o3 rfl (ldI_own st.o3 rfl ⟨?_,?_⟩))
  ·refine l01Next_ok st.s fun q G2 k2 s2 q0 q1 _=>asI_mk ?_
   have st2:=st.step k2 s2
   have hq:=q1 (by omega)
   refine ⟨st2.reread,st2.reread,⟨?_,?_⟩⟩
   ·refine l01Next_ok st2.s fun a G3 k3 s3 a0 a1 _=>asI_mk ?_
    have st3:=st2.step k3 s3
    refine ⟨st3.reread,newK_f rfl fun G4 l4 n4 o4=>pk o4 (by have:=st3.o4.lt;omega) (st3.le l4) _ fun r' G5 st5=>asI_mk (fin2 G5 q a r' st5 q0 hq)⟩
   ·refine newK_f rfl fun G4 l4 n4 o4=>?_
    have st4:=st2.le l4
    refine l01Next_ok st4.s fun a G3 k3 s3 a0 a1 _=>asI_mk ?_
    have st3:=st4.step k3 s3
    have hne:G2.length≠bs:=by have:=st2.o4.lt;omega
    exact ⟨st3.reread,pk (k3.own o4 hne) hne st3 _ fun r' G5 st5=>asI_mk (fin2 G5 q a r' st5 q0 hq)⟩
  ·refine newK_f rfl fun G4 l4 n4 o4=>?_
   have st4:=st.le l4
   have hne:G1.length≠bs:=by have:=st.o4.lt;omega
   refine l01Next_ok st4.s fun q G2 k2 s2 q0 q1 _=>asI_mk ?_
   have st2:=st4.step k2 s2
   have hq:=q1 (by omega)
   refine ⟨st2.reread,st2.reread,l01Next_ok st2.s fun a G3 k3 s3 a0 a1 _=>asI_mk ?_⟩
   have st3:=st2.step k3 s3
   exact ⟨st3.reread,pk (k3.own (k2.own o4 hne) hne) hne st3 _ fun r' G5 st5=>asI_mk (fin2 G5 q a r' st5 q0 hq)⟩
 unfold F48.B10
 refine pif_cases (fun hb=>?_) fun hb=>?_
 ·have eG:=st.f.edges
  unfold F48.B6
  obtain ⟨bb,oo,hk,q1,q2⟩:=eG.idx (show (0:Int)≤0 by omega) (by omega)
  refine hk _ (ldI_mk q1 (ldI_mk q2 (newK_f rfl fun G2 l2 n2 o2=>stK_f (new:=[.int .i64 (es.getD 0 (0,0)).1,.int .i64 (es.getD 0 (0,0)).2]) o2 (by simp) (by simp [Value.oneCell']) rfl fun G3 b3 o3=>?_)))
  have l3:G1.le G3:=b3.le l2 (Nat.le_refl _)
  have st3:=st.le l3
  have hlen3:∀ {K:Nat→Prop},K es.length→lenK x5 K:=fun k'=>st.f.edges.len k'
  have hx6:=st.o4.lt
  unfold F48.B5
  refine hlen3 ?_
  rw [wrap_id (by omega) (by omega)]
  obtain ⟨bb,oo,hk,q1,q2⟩:=st3.f.edges.idx (show (0:Int)≤(es.length:Int)-1 by omega) (by omega)
  refine hk _ (ldI_mk q1 (ldI_mk q2 (put_edge st3.f (by omega) (by omega) fun c G4 hc hcb b4 f4=>?_)))
  have st4:=st3.but b4 hc f4
  have o6:=b4.own o3 (by have:=(st.f.bk_lt hcb).2;omega)
  ·unfold F48.B4
   refine f4.edges.len (ldI_own o6 rfl (ldI_own o6 rfl ?_))
   rw [List.length_set,wrap_id (by omega) (by omega)]
   exact put_edge f4 (by omega) (by rw [List.length_set];omega) fun c G' hc _ b' f'=>bad_B1 k (st4.but b' hc f') f'.sl (by rw [List.length_set,List.length_set];exact gl) n0 n1
 unfold F48.B9
 refine pif_cases (fun hb=>?_) fun hb=>?_
 ·unfold F48.B7
  refine st.f.sl.drop (i:=1) (n:=es.length) (LE_length es) (by decide) gp gp fun v' h'=>?_
  rw [Nat.one_mul,LE_drop] at h'
  exact bad_B1 k st h' (by rw [List.length_drop];omega) n0 n1
 ·unfold F48.B8
  refine ldI_own st.o3 rfl (ld1_own st.o3 rfl (bad_put k st hvG (fun e=>by have:=(h.lt e).2;omega) (fun b e=>.inl e) gl (by omega) (by omega)))
theorem l01Spoil_ok (hs:Src Hb bs H) (k:∀ v' n' es' G,Kb bs H G→Src Hb bs G→Sl H.length G v' 84 2 (LE es')→es'.length≤2000→-2≤n'→n'≤202→K (.agg ⟨[.int .i64 n',v']⟩) G):AC Tryz.prog T0 19 [.pointer (some ⟨bs,0,none⟩)] H K:=by
 have hbs:=hs.lt
 apply F19.ac
 unfold F19.B2
 refine newK_f rfl fun H1 l1 n1 o1=>?_
 unfold F19.B1
 refine l01Draw_ok (hs.le l1) fun v1 n1' es1 G1 k1 s1 f1 g1=>agg2_mk (asI_mk ?_)
 have hk1:=k1.len
 refine l01Bad_ok s1 (f1.sl.less (by omega)) g1 fun v2 n2 es2 G2 k2 s2 h2 hv c2 a0 a1=>agg2_mk (asI_mk ?_)
 have kb2:=((Kb.of_le l1).trans k1).trans k2
 have hne:∀ b,bk v2=some b→H1.length≤b:=fun b hb=>by
  rcases hv b hb with e|e
  ·exact (f1.bk_lt e).1
  ·omega
 refine draw_tail s2 kb2 hbs (Nat.le_refl _) (k2.own (k1.own o1 (by omega)) (by omega)) (sl_one h2) fun G9 b9 kb9 s9=>?_
 have h9:=sl_but2 h2 b9 (fun e=>by have:=hne _ e;omega)
 refine k v2 n2 es2 G9 kb9 s9 ?_ c2 a0 a1
 rcases h9 with h|⟨b,q,pre,post,q1,rfl,q3,q4⟩
 ·exact .inl h
 ·exact .inr ⟨b,q,pre,post,by have:=hne b rfl;omega,rfl,q3,q4⟩
end Go.Proofs
namespace Go.Proofs
open Go.Abs

variable {H G G' Hb H0:AHeap} {v u f w:Value} {l m D:List Int} {es fs:List (Int × Int)} {K:Value→AHeap→Prop} {bs:Nat} {n:Int}

theorem put_graph {x2 m0:Nat} (o:Own G x2 26 [.int .i64 0,.slice none 0 0]) (l:H.le G) (hx:H.length≤x2) (hs:Sl m0 G v 84 2 (LE es)) (hm:x2<m0) (k:∀ G',But x2 G G'→H.le G'→Sl m0 G' v 84 2 (LE es)→K (.agg ⟨[.int .i64 n,v]⟩) G') :
 stK G x2 0 [.int .i64 n,v] (fun H7=>ldI .i64 H7 x2 0 (fun v8=>ld1 H7 x2 1 (fun v9=>K (.agg ⟨[.int .i64 v8,v9]⟩) H7))):=by
 refine stK_f (new:=[.int .i64 n,v]) o (by simp) (mem_iv (sl_one hs)) rfl fun G5 b5 o5=>ldI_own o5 rfl (ld1_own o5 rfl ?_)
 exact k G5 b5 (b5.le l hx) (hs.but b5 hm)
def DrwK (H:AHeap) (K:Value→AHeap→Prop):Prop:=∀ v n es G,H.le G→Sl H.length G v 84 2 (LE es)→es.length≤2000→K (.agg ⟨[.int .i64 n,v]⟩) G
end Go.Proofs
namespace Go.Proofs
open Go.Abs

variable {H:AHeap} {v u f:Value} {l m c:List Int} {es fs:List (Int × Int)} {K:Value→AHeap→Prop}

theorem and32 {y:Int} (h0:0≤y) (h1:y<4294967296):IntKind.u64.wrap (((BitVec.ofInt 64 y&&&BitVec.ofInt 64 4294967295).toNat:Nat):Int)=y:=by
 obtain ⟨n,rfl⟩:=Int.eq_ofNat_of_zero_le h0
 have h:(BitVec.ofInt 64 ((n:Nat):Int)&&&BitVec.ofInt 64 4294967295).toNat=n:=by
  rw [BitVec.toNat_and,show (BitVec.ofInt 64 4294967295).toNat=2^32-1 from by decide,Nat.and_two_pow_sub_one_eq_mod]
  simp only [BitVec.ofInt_natCast,BitVec.toNat_ofNat]
  omega
 rw [h]
 simp only [IntKind.wrap,IntKind.bits,IntKind.signed,Bool.false_and,Bool.false_eq_true,if_false]
 omega
theorem mul64_ok {y:Int} (h0:0≤y) (h1:y<4294967296) (k:K (.tuple ⟨[.int .u64 0,.int .u64 y]⟩) H):AC Tryz.prog T0 124 [.int .u64 1,.int .u64 y] H K:=by
 apply F124.ac
 have e0:Int.fdiv y (2^(min (Int.toNat 32) 64))=0:=by
  rw [show (2:Int)^(min (Int.toNat 32) 64)=4294967296 from by decide,Int.fdiv_eq_ediv_of_nonneg _ (by decide)];omega
 have w:∀ z:Int,0≤z→z<4294967296→IntKind.u64.wrap z=z:=by
  intro z a b;simp only [IntKind.wrap,IntKind.bits,IntKind.signed,Bool.false_and,Bool.false_eq_true,if_false];omega
 unfold F124.B12 F124.B11 F124.B10
 rw [and32 (by decide) (by decide)]
 refine ⟨by decide,?_⟩
 rw [show Int.fdiv 1 (2^(min (Int.toNat 32) 64))=0 from by decide]
 unfold F124.B9 F124.B8
 rw [and32 h0 h1]
 refine ⟨by decide,?_⟩
 rw [e0]
 unfold F124.B7 F124.B6
 refine ⟨by decide,?_⟩
 rw [Int.one_mul,w y h0 h1,e0,Int.zero_mul,w 0 (by decide) (by decide),show (0:Int)+0=0 from rfl,w 0 (by decide) (by decide)]
 unfold F124.B5 F124.B4
 rw [and32 (by decide) (by decide)]
 refine ⟨by decide,?_⟩
 rw [show Int.fdiv 0 (2^(min (Int.toNat 32) 64))=0 from by decide]
 unfold F124.B3 F124.B2
 refine ⟨by decide,?_⟩
 simp only [show (1:Int)*0=0 from rfl,show (0:Int)*0=0 from rfl,show (0:Int)+0=0 from rfl,w 0 (by decide) (by decide),show Int.fdiv 0 (2^(min (Int.toNat 32) 64))=0 from by decide]
 unfold F124.B1
 rw [Int.one_mul,w y h0 h1]
 exact k
theorem mul_ok {y:Int} (h0:0≤y) (h1:y<4294967296) (k:K (.tuple ⟨[.int .u64 0,.int .u64 y]⟩) H):AC Tryz.prog T0 115 [.int .u64 1,.int .u64 y] H K:=by
 apply F115.ac
 unfold F115.B3 F115.B2
 refine mul64_ok h0 h1 ?_
 exact k
end Go.Proofs
namespace Go.Proofs
open Go.Abs

variable {H:AHeap} {l s:List Int}

theorem cp_own {b o n c2 sb so m c:Nat} {K:Nat→AHeap→Prop} (hb:Own H b 2 (LI l)) (hs:Own H sb 2 (LI s)) (hm:0<m) (hn:0<n) (h1:so+m≤s.length) (h2:o+n≤l.length)
 (k:∀ G,But b H G→Own G b 2 (LI (l.take o++(s.drop so).take (Nat.min m n)++l.drop (o+Nat.min m n)))→K (Nat.min m n) G) :
 cpK T0 2 H (.slice (some ⟨b,o,none⟩) n c2) (.slice (some ⟨sb,so,none⟩) m c) K:=by
 have hq:Nat.min m n≤m∧Nat.min m n≤n∧0<Nat.min m n:=⟨Nat.min_le_left _ _,Nat.min_le_right _ _,Nat.lt_min.2 ⟨hm,hn⟩⟩
 have hl:(LI ((s.drop so).take (Nat.min m n))).length=Nat.min m n:=by simp only [LI,List.length_map,List.length_take,List.length_drop];omega
 refine .inr ⟨sb,so,m,c,b,o,n,c2,LI l,LI ((s.drop so).take (Nat.min m n)),rfl,rfl,hb,hq.2.2,?_,?_,?_,k _ But.set ?_⟩
 ·rw [hl];exact (Nat.mul_one _).symm
 ·intro i u hu
  rw [hs.cell]
  have hi:=lt_of_get hu
  rw [hl] at hi
  simp only [LI,List.getElem?_map] at hu ⊢
  rw [List.getElem?_take_of_lt hi,List.getElem?_drop] at hu
  exact hu
 ·rw [hl];simp only [LI,List.length_map];omega
 ·rw [hl]
  have:b<H.length:=lt_of_get hb
  simp only [Own,LI,List.map_append,List.map_take,List.map_drop]
  rw [List.getElem?_set_self this]
end Go.Proofs
namespace Go.Proofs
open Go.Abs

variable {H:AHeap} {l s:List Int}

theorem repeat_ok {b1:Nat} {t n:Int} {K:Value→AHeap→Prop} (o:Own H b1 2 (LI [t])) (h0:0≤n) (h1:n≤1000000)
 (k:∀ G,H.le G→Own G H.length 2 (LI (List.replicate n.toNat t))→K (.slice (some ⟨H.length,0,none⟩) n.toNat (n.toNat+1)) G) :
 AC Tryz.prog T0 100 [.slice (some ⟨b1,0,none⟩) 1 (1+1),.int .i64 n] H K:=by
 obtain ⟨N,rfl⟩:=Int.eq_ofNat_of_zero_le h0
 have hu:IntKind.u64.wrap ((N:Nat):Int)=N:=by simp only [IntKind.wrap,IntKind.bits,IntKind.signed,Bool.false_and,Bool.false_eq_true,if_false];omega
 have hb1:b1<H.length:=lt_of_get o
 apply F100.ac
 unfold F100.B10 F100.B9
 refine pif_f (by simp) ?_
 unfold F100.B8
 refine lenK_of ?_
 rw [hu,show IntKind.u64.wrap ((1:Nat):Int)=1 from by decide]
 refine mul_ok (by omega) (by omega) ?_
 show F100.B7 K _ 0 N H
 unfold F100.B7
 refine pif_f (by decide) (pif_f (by simp;omega) ?_)
 unfold F100.B6
 rw [wrap_id (by omega) (by omega)]
 refine mkR_int (by omega) (by omega) (by decide) fun H2 l2 n2 o2=>?_
 rw [rep_one,Int.toNat_natCast] at o2
 simp only [Int.toNat_natCast] at k ⊢
 unfold F100.B5
 have main:∀ (i:Nat) G,i≤N→(0<i∨N=0)→H.le G→Own G H.length 2 (LI (List.replicate i t++List.replicate (N-i) 0))→F100.L2 K (.slice (some ⟨H.length,0,none⟩) N (N+1)) (i:Int) G:=by
  intro i G hi hp hl ho
  unfold F100.L2
  refine ⟨fun x7 x8 G=>x7=.slice (some ⟨H.length,0,none⟩) N (N+1)∧∃ i:Nat,x8=i∧i≤N∧(0<i∨N=0)∧H.le G∧Own G H.length 2 (LI (List.replicate i t++List.replicate (N-i) 0)),fun _ x8 _=>N-x8.toNat,⟨rfl,i,rfl,hi,hp,hl,ho⟩,?_⟩
  rintro x7 x8 G ⟨rfl,i,rfl,hi,hp,hl,ho⟩
  unfold F100.B4
  refine lenK_of ?_
  by_cases h:i<N
  ·refine pif_t (by simp;omega) ?_
   unfold F100.B3
   refine ⟨⟨_,_,ho,by simp [LI];omega⟩,by omega,by omega,by omega,?_⟩
   refine ⟨⟨_,_,ho,by simp [LI];omega⟩,by omega,by omega,by omega,?_⟩
   simp only [Int.toNat_natCast,Nat.zero_add,Nat.mul_one,Int.toNat_zero,Nat.zero_mul,Nat.sub_zero]
   refine cp_own ho ho (by omega) (by omega) (by first|(simp;done)|(simp;omega)) (by first|(simp;done)|(simp;omega)) fun G2 b2 o2=>?_
   have hq:Nat.min i (N-i)≤i∧Nat.min i (N-i)≤N-i∧0<Nat.min i (N-i):=⟨Nat.min_le_left _ _,Nat.min_le_right _ _,Nat.lt_min.2 ⟨by omega,by omega⟩⟩
   generalize Nat.min i (N-i)=q at hq o2 ⊢
   rw [wrap_id (by omega) (by omega)]
   refine ⟨⟨by first|trivial|rfl,i+q,by omega,by omega,by omega,b2.le hl (Nat.le_refl _),?_⟩,by omega⟩
   have e:(List.replicate i t++List.replicate (N-i) 0).take i++((List.replicate i t++List.replicate (N-i) 0).drop 0).take q++(List.replicate i t++List.replicate (N-i) 0).drop (i+q)=List.replicate (i+q) t++List.replicate (N-(i+q)) 0:=by
    rw [List.take_left' (by simp),List.drop_zero,List.take_append_of_le_length (by simp;omega),List.take_replicate,Nat.min_eq_left hq.1,List.replicate_append_replicate,List.drop_append,List.drop_eq_nil_of_le (by simp),List.nil_append,List.drop_replicate,List.length_replicate]
    congr 2;omega
   rw [e] at o2
   exact o2
  ·refine pif_f (by simp;omega) ?_
   unfold F100.B1
   obtain rfl:i=N:=by omega
   exact k _ hl (by simpa using ho)
 by_cases hN:N=0
 ·subst hN
  exact .inl ⟨_,_,_,_,_,_,rfl,rfl,.inr rfl,main 0 H2 (by omega) (.inr rfl) l2 (by simpa using o2)⟩
 ·refine cp_own o2 (l2.2 _ _ o) (by omega) (by omega) (by simp) (by simp) fun G b2 o3=>?_
  have hq:Nat.min 1 N=1:=Nat.min_eq_left (by omega)
  rw [hq] at o3 ⊢
  refine main 1 G (by omega) (.inl (by omega)) (b2.le l2 (Nat.le_refl _)) ?_
  simpa using o3
end Go.Proofs
namespace Go.Proofs
open Go.Abs

variable {H:AHeap} {u:Value} {fs:List (Int × Int)} {K:Value→AHeap→Prop}

end Go.Proofs
namespace Go.Proofs
open Go.Abs

variable {H G:AHeap} {v u f:Value} {l m c D:List Int} {es fs:List (Int × Int)} {K:Value→AHeap→Prop}

def farB (D:List Int) (w:Nat):Bool:=decide (w<D.length∧0≤D.getD w 0)
theorem farB_lt {w:Nat} (h:farB D w=true):w<D.length:=(of_decide_eq_true h).1
theorem farB_iff {w:Nat} (h:w<D.length):farB D w=true↔0≤D.getD w 0:=by unfold farB;rw [decide_eq_true_iff];exact ⟨fun h=>h.2,fun h'=>⟨h,h'⟩⟩
theorem farB_set {y:Nat} {d:Int} (h:y<D.length) (hd:0≤d):farB (D.set y d)=insB (farB D) y:=by
 funext j
 unfold farB insB
 rw [List.length_set]
 by_cases e:y=j
 ·subst e;rw [getD_set_self h];simp [h,hd]
 ·rw [getD_set_ne e];simp [e]
structure FarOk (n:Nat) (D:List Int):Prop where
 len:D.length=n
 rng:∀ w,w<n→-1≤D.getD w 0∧D.getD w 0+unseen (farB D) n≤21
theorem FarOk.set {n x y:Nat} (h:FarOk n D) (hx:farB D x=true) (hy:y<n) (hf:farB D y=false):FarOk n (D.set y (D.getD x 0+1)):=by
 have hl:=h.len
 have hxl:=farB_lt hx
 have hx0:=(farB_iff hxl).1 hx
 have hu:=unseen_ins (S:=farB D) hy hf
 refine ⟨by simp [hl],fun w hw=>?_⟩
 rw [farB_set (by omega) (by omega)]
 by_cases e:y=w
 ·subst e
  rw [getD_set_self (by omega)]
  have:=h.rng x (by omega)
  omega
 ·rw [getD_set_ne e]
  have:=h.rng w hw
  omega
structure InV (adj:Nat→Nat→Prop) (a x n M:Nat) (D':Nat→Prop) (S:Nat→Bool) (R:List Nat):Prop where
 ex:Ex adj a S (x::R)
 bnd:∀ y,S y=true→y<n
 mu:2*unseen S n+(R.length+1)≤M
 past:∀ j,D' j→S j=true
section
variable {adj:Nat→Nat→Prop} {a x n M:Nat} {D' D2:Nat→Prop} {S:Nat→Bool} {R:List Nat}
theorem InV.more (h:InV adj a x n M D' S R) (hd:∀ j,D2 j→D' j∨S j=true):InV adj a x n M D2 S R:=
 ⟨h.ex,h.bnd,h.mu,fun j hj=>(hd j hj).elim (h.past j) id⟩
theorem InV.push {y:Nat} (h:InV adj a x n M D' S R) (hy:adj x y) (hyn:y<n) (hn:S y=false) (hd:∀ j,D2 j→D' j∨j=y):InV adj a x n M D2 (insB S y) (R++[y]):=by
 have hx:S x=true:=h.ex.q x (by simp)
 refine ⟨h.ex.push hx hy,fun z hz=>?_,?_,fun j hj=>?_⟩
 ·by_cases e':z=y
  ·rw [e'];exact hyn
  ·exact h.bnd z (insB_ne hz e')
 ·have:=unseen_ins (n:=n) hyn hn
  have:=h.mu
  simp;omega
 ·rcases hd j hj with hj|rfl
  ·exact insB_of (h.past j hj)
  ·exact insB_self _ _
theorem InV.pop (h:InV adj a x n M D' S R) (hd:∀ j,adj x j→D' j):Ex adj a S R∧2*unseen S n+R.length<M:=
 ⟨h.ex.pop fun y hy=>h.past y (hd y hy),by have:=h.mu;omega⟩
end
def PastV (es:List (Int × Int)) (p:Nat→Bool) (x t:Nat) (j:Nat):Prop:=∃ t',t'<t∧t'<(atL es x).length∧p ((atL es x).getD t' 0).toNat=false∧(j:Int)=(es.getD ((atL es x).getD t' 0).toNat (0,0)).1+(es.getD ((atL es x).getD t' 0).toNat (0,0)).2-x
theorem PastV.step {p:Nat→Bool} {x t j i:Nat} (h:PastV es p x (t+1) j) (hi:(atL es x).getD t 0=i):PastV es p x t j∨(p i=false∧(j:Int)=(es.getD i (0,0)).1+(es.getD i (0,0)).2-x):=by
 obtain ⟨t',h1,h2,h3,h4⟩:=h
 by_cases e:t'=t
 ·subst e;rw [hi,Int.toNat_natCast] at h3 h4;exact .inr ⟨h3,h4⟩
 ·exact .inl ⟨t',by omega,h2,h3,h4⟩
theorem PastV.fin {p:Nat→Bool} {x j:Nat} (h:vAdj (restL es p) x j):PastV es p x (atL es x).length j:=by
 have:∃ i,i<es.length∧p i=false∧on (es.getD i (0,0)) x=true∧(j:Int)=(es.getD i (0,0)).1+(es.getD i (0,0)).2-x:=by
  rcases h with h|h
  ·obtain ⟨i,h1,h2,h3⟩:=mem_restL.1 h
   exact ⟨i,h1,h2,by rw [← h3];unfold on;simp,by rw [← h3];simp only;omega⟩
  ·obtain ⟨i,h1,h2,h3⟩:=mem_restL.1 h
   exact ⟨i,h1,h2,by rw [← h3];unfold on;simp,by rw [← h3];simp only;omega⟩
 obtain ⟨i,h1,h2,h3,h4⟩:=this
 have hm:(i:Int)∈atL es x:=mem_atL.2 ⟨i,rfl,h1,h3⟩
 obtain ⟨t,ht,hte⟩:=List.getElem_of_mem hm
 have e:(atL es x).getD t 0=i:=by rw [getD_of ht,hte]
 exact ⟨t,ht,ht,by rw [e];exact h2,by rw [e];exact h4⟩
theorem adj_of {p:Nat→Bool} {x y i:Nat} (h1:i<es.length) (h2:p i=false) (h3:on (es.getD i (0,0)) x=true) (h4:(y:Int)=(es.getD i (0,0)).1+(es.getD i (0,0)).2-x):vAdj (restL es p) x y:=by
 unfold on at h3
 simp only [Bool.or_eq_true,beq_iff_eq] at h3
 rcases h3 with h|h
 ·refine .inl (mem_restL.2 ⟨i,h1,h2,?_⟩)
  rw [← h,show (y:Int)=(es.getD i (0,0)).2 by omega]
 ·refine .inr (mem_restL.2 ⟨i,h1,h2,?_⟩)
  rw [← h,show (y:Int)=(es.getD i (0,0)).1 by omega]
def FarQ (n m0 b0:Nat) (X:(Nat→Bool)→List Nat→Prop) (x7 q:Value) (G:AHeap):Prop:=x7=.slice (some ⟨b0,0,none⟩) n (n+1)∧∃ (D:List Int) (Q:List Nat),Own G b0 2 (LI D)∧FarOk n D∧X (farB D) Q∧Sl m0 G q 2 1 (LI (NI Q))
def rowFar (G:AHeap) (b:Nat):Nat→Bool:=
 match G[b]? with
 | some (some (.row cs _ _))=>farB (cs.map fun|.int _ x=>x|_=>0)
 | _=>fun _=>false
theorem rowFar_own {b:Nat} {t:TypeId} (h:Own G b t (LI D)):rowFar G b=farB D:=by
 unfold rowFar;rw [h];simp only [LI,List.map_map]
 congr 1
 conv=>rhs;rw [← List.map_id D]
 rfl
theorem distances_ok {n:Int} {a s:Nat} (h:Edges H v es) (hg:IsG n es) (hs:s<2^64) (ha:a<n.toNat)
 (k:∀ b0 D G,H.le G→H.length≤b0→Own G b0 2 (LI D)→D.length=n.toNat→(∀ w,w<n.toNat→(0≤D.getD w 0↔Rch (vAdj (restL es fun j=>s.testBit j)) a w))→K (.slice (some ⟨b0,0,none⟩) n.toNat (n.toNat+1)) G) :
 AC Tryz.prog T0 114 [.agg ⟨[.int .i64 n,v]⟩,.int .i64 (a:Nat),.int .u64 (s:Nat)] H K:=by
 have n0:=hg.ed.lo;have n1:=hg.ed.hi
 have h30:es.length≤30:=by have:=hg.ed.len;omega
 apply F114.ac
 unfold F114.B17
 refine newK_f (all_iv (edges_one' h)) fun H1 l1 _ o1=>?_
 unfold F114.B16
 refine newK_f rfl fun H2 l2 _ o2=>ldI_own (o1.le l2) rfl (repeat_ok (t:=-1) (by simpa using o2) (by omega) (by omega) fun H3 l3 o3=>?_)
 have l13:=AHeap.le_trans l2 l3
 obtain ⟨b0,hb0⟩:∃ b0,b0=H2.length:=⟨_,rfl⟩
 have hb0l:H1.length≤b0:=by rw [hb0];exact l2.1
 rw [← hb0] at o3
 rw [← hb0]
 clear o2 hb0
 unfold F114.B15
 refine own_idx (by omega) (by omega) (stK_1 o3 (by simp;omega) rfl fun H4 b4 o4=>?_)
 rw [Int.toNat_natCast,show LI (List.replicate n.toNat (-1))=(List.replicate n.toNat (-1)).map (Value.int .i64) from rfl,← List.map_set] at o4
 have o4:Own H4 b0 2 (LI ((List.replicate n.toNat (-1)).set a 0)):=o4
 have hb03:b0<H4.length:=o4.lt
 have l14:H1.le H4:=b4.le l13 hb0l
 unfold F114.B14
 refine newK_f rfl fun H5 l5 _ o5=>?_
 obtain ⟨p,hp⟩:∃ p:Nat→Bool,p=fun j=>s.testBit j:=⟨_,rfl⟩
 rw [← hp] at k
 have D0:∀ w,w<n.toNat→((List.replicate n.toNat (-1)).set a (0:Int)).getD w 0=if a=w then 0 else -1:=by
  intro w hw
  by_cases e:a=w
  ·subst e;rw [if_pos rfl];exact getD_set_self (by simp;omega)
  ·rw [if_neg e,getD_set_ne e];simp [List.getD,hw]
 have F0:∀ w,farB ((List.replicate n.toNat (-1)).set a (0:Int)) w=true↔w=a:=by
  intro w
  by_cases hw:w<n.toNat
  ·rw [farB_iff (by simp;omega),D0 w hw]
   by_cases e:a=w
   ·subst e;simp
   ·rw [if_neg e];exact ⟨fun h=>absurd h (by decide),fun h=>absurd h.symm e⟩
  ·exact ⟨fun h=>absurd (farB_lt h) (by simp;omega),fun h=>by omega⟩
 unfold F114.L2
 refine ⟨fun x2 x3 x7 x8 G=>((s:Nat):Int)=x2∧H.length=x3∧H1.le G∧H4.length≤G.length∧FarQ n.toNat H4.length b0 (fun S Q=>Ex (vAdj (restL es p)) a S Q∧(∀ y,S y=true→y<n.toNat)∧2*unseen S n.toNat+Q.length≤41) x7 x8 G,
  fun _ _ _ x8 G=>2*unseen (rowFar G b0) n.toNat+lenV x8,⟨rfl,rfl,AHeap.le_trans l14 l5,l5.1,rfl,_,[a],o4.le l5,⟨by simp,fun w hw=>?_⟩,⟨.init F0,fun y hy=>?_,?_⟩,Fresh.sl (.inr ⟨_,1,Nat.le_refl _,rfl,o5,rfl⟩)⟩,?_⟩
 ·rw [D0 w hw]
  have:=unseen_le (farB ((List.replicate n.toNat (-1)).set a (0:Int))) n.toNat
  split <;> omega
 ·rw [(F0 y).1 hy];exact ha
 ·have:=unseen_le (farB ((List.replicate n.toNat (-1)).set a (0:Int))) n.toNat
  simp;omega
 clear o5 l5 D0 F0 o4 o3 b4
 rintro x2 x3 x7 x8 G ⟨rfl,rfl,hG,hM4,rfl,D,Q,oD,hD,⟨hE,hB,hU⟩,hQ⟩
 have oG:=o1.le hG
 unfold F114.B13
 refine hQ.len (by decide) (n:=Q.length) (by simp) (pif_cases (fun hb=>?_) fun hb=>?_)
 ·have hpos:0<Q.length:=by have:=of_decide_eq_true hb;omega
  cases Q with
  | nil=>simp at hpos
  | cons x Q=>
  have hxl:x<n.toNat:=hB x (hE.q x (by simp))
  have hmu:2*unseen (rowFar G b0) n.toNat+lenV x8=2*unseen (farB D) n.toNat+(Q.length+1):=by
   rw [Sl_lenV hQ,rowFar_own oD];simp
  have hU:2*unseen (farB D) n.toNat+(Q.length+1)≤41:=hU
  obtain ⟨M,hM⟩:∃ M,M=2*unseen (farB D) n.toNat+(Q.length+1):=⟨_,rfl⟩
  unfold F114.B12
  refine ldI_own oG rfl (ld1_own oG rfl (hQ.ints.rd (by decide) (by simp) ?_))
  rw [show (NI (x::Q)).getD (0:Int).toNat 0=(x:Int) from rfl]
  have lG:=AHeap.le_trans l1 hG
  refine at_ok (h.le lG) (by omega) fun w G2 hG2 hF=>?_
  have h3:=hg.three (v:=(x:Int)) (by omega) (by omega)
  refine hF.len (by decide) (n:=3) (by rw [List.length_map,h3]) ?_
  have lG2:=AHeap.le_trans hG hG2
  have hbG:b0<G.length:=oD.lt
  unfold F114.L4
  refine ⟨fun x2 x3 x7 x8 x30 x31 x32 G=>((s:Nat):Int)=x2∧H.length=x3∧w=x30∧3=x31∧H1.le G∧H4.length≤G.length∧Sl H4.length G w 2 1 (LI (atL es x))∧(∀ b,bk w=some b→bk x8≠some b)∧
   ∃ t:Nat,x32=t∧t≤3∧FarQ n.toNat H4.length b0 (fun S Q'=>∃ R,Q'=x::R∧InV (vAdj (restL es p)) a x n.toNat M (PastV es p x t) S R) x7 x8 G,
   fun _ _ _ _ _ _ x32 _=>3-x32.toNat,⟨rfl,rfl,rfl,rfl,lG2,Nat.le_trans hM4 hG2.1,hF.less hM4,(fun b hb hb'=>by have:=(hF.lt hb).1;have:=(hQ.lt hb').2;omega),0,rfl,by omega,rfl,D,x::Q,oD.le hG2,hD,⟨Q,rfl,hE,hB,by omega,fun j ⟨t',h,_⟩=>absurd h (by omega)⟩,hQ.le hG2⟩,?_⟩
  clear hQ hE hB hF hG2 lG2 oG lG hG hM4 hbG oD hD
  rintro x2 x3 x7 x8' x30 x31 x32 G3 ⟨rfl,rfl,rfl,rfl,hG,hM4,hW,hA,t,rfl,ht,rfl,D3,_,oD,hD,⟨R,rfl,hX⟩,hQ⟩
  have lG:=AHeap.le_trans l1 hG
  have oG:=o1.le hG
  unfold F114.B11
  refine pif_cases (fun hb=>?_) fun hb=>?_
  ·have ht3:t<3:=by have:=of_decide_eq_true hb;omega
   obtain ⟨i,hi1,hi2,hi3⟩:=at_get (es:=es) (w:=(x:Int)) (t:=t) (by omega)
   obtain ⟨d1,d2,d3,d4,d5⟩:=hg.ed.ends es[i] (List.getElem_mem hi2)
   rw [← getD_of (d:=(0,0)) hi2] at d1 d2 d3 d4 d5
   obtain ⟨y,hy⟩:∃ y:Nat,(es.getD i (0,0)).1+(es.getD i (0,0)).2-(x:Int)=y:=⟨((es.getD i (0,0)).1+(es.getD i (0,0)).2-(x:Int)).toNat,by rcases on_oth hi3 with e|e <;> omega⟩
   have hyn:y<n.toNat:=by rcases on_oth hi3 with e|e <;> omega
   have hstep:∀ j,PastV es p x (t+1) j→PastV es p x t j∨(p i=false∧j=y):=fun j hj=>(PastV.step hj hi1).imp id fun ⟨h1,h2⟩=>⟨h1,by omega⟩
   unfold F114.B10
   refine hW.ints.rd (by omega) (by omega) ?_
   simp only [Int.toNat_natCast,hi1]
   unfold F114.B9
   obtain ⟨bb,oo,hk,c1,c2⟩:=(h.le lG).idx (show (0:Int)≤i by omega) (by omega)
   simp only [Int.toNat_natCast] at c1 c2
   refine ld1_own oG rfl (hk _ (ldI_mk c1 (ldI_mk c2 (hQ.ints.rd (by decide) (by simp) ?_))))
   rw [show (NI (x::R)).getD (0:Int).toNat 0=(x:Int) from rfl]
   refine other_ok (e:=es.getD i (0,0)) (by omega) (by omega) (by omega) fun G4 l4=>asI_mk ?_
   rw [hy]
   have hG:=AHeap.le_trans hG l4
   have hM4:=Nat.le_trans hM4 l4.1
   have hW:=hW.le l4
   have oD:=oD.le l4
   have hQ:=hQ.le l4
   have oi:=own_ints (c:=n.toNat+1) oD
   rw [hD.len] at oi
   have hyl:y<D3.length:=by rw [hD.len];exact hyn
   have hxl3:x<D3.length:=by rw [hD.len];exact hxl
   have pi':p i=s.testBit i:=by rw [hp]
   unfold F114.B8
   refine oi.rd (by omega) (by omega) (pif_cases (fun hb=>?_) fun hb=>?_)
   ·have hn:farB D3 y=false:=by
     have:=of_decide_eq_true hb
     rw [Int.toNat_natCast] at this
     cases hf:farB D3 y with
     | false=>rfl
     | true=>have:=(farB_iff hyl).1 hf;omega
    refine has_ok hs (by omega) (asB_mk ?_)
    rw [Int.toNat_natCast,← pi']
    refine pif_cases (fun hb=>?_) fun hb=>?_
    ·have hpi:p i=false:=by simpa using hb
     have hx3:farB D3 x=true:=hX.ex.q x (by simp)
     have hx0:=(farB_iff hxl3).1 hx3
     have hr:=(hD.rng x hxl).2
     unfold F114.B7
     refine hQ.ints.rd (by decide) (by simp) ?_
     rw [show (NI (x::R)).getD (0:Int).toNat 0=(x:Int) from rfl]
     refine oi.rd (by omega) (by omega) (own_idx (by omega) (by omega) (stK_1 oD (by simp;omega) rfl fun G5 b5 o5=>?_))
     rw [Int.toNat_natCast,Int.toNat_natCast,wrap_id (by omega) (by omega)] at o5
     have o5:Own G5 b0 2 (LI (D3.set y (D3.getD x 0+1))):=by rw [← List.map_set] at o5;exact o5
     have hD5:=hD.set hx3 hyn hn
     have hG5:=b5.le hG hb0l
     have hQ5:=hQ.but b5 hb03
     have hW5:=hW.but b5 hb03
     unfold F114.B6
     refine hQ5.pushN E_int (by decide) (by rw [b5.len];exact hM4) (n:=1) (ys:=[.int .i64 y]) rfl rfl (by have:=hX.mu;simp;omega) (by simp) fun v' G6 k6 ot6 nb6 f6=>?_
     unfold F114.B5
     rw [wrap_id (by omega) (by omega)]
     refine ⟨⟨rfl,rfl,rfl,rfl,k6.le hG5 (by omega),by have:=k6.len;have:=b5.len;omega,hW5.oth ot6 hA,(fun b hb hb'=>by have:=(hW5.lt hb).2;have:=nb6 b hb';omega),t+1,by omega,by omega,rfl,_,x::(R++[y]),k6.own o5 hb03,hD5,⟨R++[y],rfl,?_⟩,by simpa using f6.sl⟩,by simp;omega⟩
     rw [farB_set hyl (by omega)]
     exact hX.push (adj_of hi2 hpi hi3 hy.symm) hyn hn fun j hj=>(hstep j hj).imp id fun h=>h.2
    ·have hpi:p i=true:=by simpa using hb
     unfold F114.B5
     rw [wrap_id (by omega) (by omega)]
     refine ⟨⟨rfl,rfl,rfl,rfl,hG,hM4,hW,hA,t+1,by omega,by omega,rfl,D3,x::R,oD,hD,⟨R,rfl,hX.more fun j hj=>?_⟩,hQ⟩,by simp;omega⟩
     rcases hstep j hj with h|⟨h,rfl⟩
     ·exact .inl h
     ·rw [hpi] at h;cases h
   ·have hn:farB D3 y=true:=by
     have:=of_decide_eq_false hb
     rw [Int.toNat_natCast] at this
     exact (farB_iff hyl).2 (by omega)
    unfold F114.B5
    rw [wrap_id (by omega) (by omega)]
    refine ⟨⟨rfl,rfl,rfl,rfl,hG,hM4,hW,hA,t+1,by omega,by omega,rfl,D3,x::R,oD,hD,⟨R,rfl,hX.more fun j hj=>?_⟩,hQ⟩,by simp;omega⟩
    rcases hstep j hj with h|⟨h,rfl⟩
    ·exact .inl h
    ·exact .inr hn
  ·have ht3:t=3:=by have:=of_decide_eq_false hb;omega
   subst ht3
   unfold F114.B3
   obtain ⟨hE,hlt⟩:=hX.pop fun j hj=>by rw [← h3];exact PastV.fin hj
   refine hQ.drop (i:=1) (n:=R.length+1) (by simp) (by decide) (by omega) (by omega) fun v' hv'=>?_
   have hv':Sl H4.length G3 v' 2 1 (LI (NI R)):=by simpa using hv'
   refine ⟨⟨rfl,rfl,hG,hM4,rfl,D3,R,oD,hD,⟨hE,hX.bnd,by omega⟩,hv'⟩,?_⟩
   show 2*unseen (rowFar G3 b0) n.toNat+lenV v'<2*unseen (rowFar G b0) n.toNat+lenV x8
   rw [hmu,Sl_lenV hv',rowFar_own oD]
   simpa [hM] using hlt
 ·have hz:Q=[]:=by
   have:=of_decide_eq_false hb
   cases Q with
   | nil=>rfl
   | cons x Q=>simp at this
  subst hz
  unfold F114.B1
  refine k b0 D G (AHeap.le_trans l1 hG) (by have:=l1.1;omega) oD hD.len fun w hw=>?_
  rw [← farB_iff (by have:=hD.len;omega)]
  exact hE.fin w
end Go.Proofs
