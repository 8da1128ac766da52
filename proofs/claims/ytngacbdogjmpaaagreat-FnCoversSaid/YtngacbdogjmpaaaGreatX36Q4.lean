/- Contracts and plain mathematics for a law, merged. -/
import Derived.Test.YtngacbdogjmpaaaGreatX36Q3
set_option linter.unusedVariables false
set_option linter.unusedSimpArgs false
set_option maxRecDepth 100000
namespace Go.Proofs
open Go.Abs

variable {H G:AHeap} {v u f w:Value} {l m c:List Int} {es fs:List (Int × Int)} {K:Value→AHeap→Prop} {A:Nat→Prop} {B C:Nat} {ls ms:List (List Int)}

theorem RowsF.app (h:RowsF A B H v ls) (g:RowsF (fun b=>B≤b) C H w ms) (hB:B≤H.length) (hC:C≤H.length) (hA:∀ b,B≤b→A b) (hs:ls.length+ms.length≤4294967296)
 (k:∀ v' G,Oth v H G→H.length≤G.length→RowsF A G.length G v' (ls++ms)→K v' G):apK T0 27 H v w K:=by
 obtain ⟨vs,h1,h2,h3,h4⟩:=h
 obtain ⟨ws,g1,g2,g3,g4⟩:=g
 refine h1.sl.app zrA (by decide) (Nat.zero_le _) (zec g1 (by decide) (n:=ms.length) (by omega)) (by omega) (fun h0=>?_) fun v' G k1 ot nb f'=>k v' G ot k1.len ?_
 ·have:ms=[]:=List.length_eq_zero_iff.1 (by rw [← g2,h0];rfl)
  subst this
  rw [List.append_nil] at k
  exact k v H (fun _ _ _ h=>h) (Nat.le_refl _) ((show RowsF A B H v ls from ⟨vs,h1,h2,h3,h4⟩).mono (fun _ h=>h) hB)
 ·refine ⟨vs++ws,f',by simp [h2,g2],fun b hb=>⟨hA b (by have:=nb b hb;omega),(f'.bk_lt hb).2⟩,fun i hi=>?_⟩
  rw [List.length_append] at hi
  by_cases e:i<ls.length
  ·obtain ⟨w',q1,q2,q3⟩:=h4 i e
   refine ⟨w',by rw [List.getElem?_append_left (by omega)];exact q1,?_,fun b hb=>?_⟩
   ·rw [show (ls++ms).getD i []=ls.getD i [] by simp [List.getD,List.getElem?_append_left e]]
    exact zaM q2 fun b o hb ho=>ot b o (q3 b hb).2.2.1 ho
   ·obtain ⟨r1,r2,r3,r4⟩:=q3 b hb
    refine ⟨r1,by have:=k1.len;omega,fun hv=>by have:=nb b hv;omega,fun j w2 hj hw2=>r4 j w2 hj ?_⟩
    rwa [List.getElem?_append_left (by omega)] at hw2
  ·obtain ⟨j,rfl⟩:∃ j,i=ls.length+j:=⟨i-ls.length,by omega⟩
   obtain ⟨w',q1,q2,q3⟩:=g4 j (by omega)
   refine ⟨w',by rw [List.getElem?_append_right (by omega),h2,Nat.add_sub_cancel_left];exact q1,?_,fun b hb=>?_⟩
   ·rw [show (ls++ms).getD (ls.length+j) []=ms.getD j [] by simp [List.getD,List.getElem?_append_right]]
    exact zaM q2 fun b o hb ho=>ot b o (fun hv=>by have:=(h3 b hv).2;have:B≤b:=(q3 b hb).1;omega) ho
   ·obtain ⟨r1,r2,r3,r4⟩:=q3 b hb
    refine ⟨hA b r1,by have:=k1.len;omega,fun hv=>by have:=nb b hv;omega,fun j' w2 hj hw2 hw3=>?_⟩
    by_cases e2:j'<ls.length
    ·rw [List.getElem?_append_left (by omega)] at hw2
     obtain ⟨w4,s1,_,s3⟩:=h4 j' e2
     rw [hw2] at s1;cases s1
     have:=(s3 b hw3).2.1
     have:B≤b:=r1
     omega
    ·rw [List.getElem?_append_right (by omega)] at hw2
     exact r4 (j'-vs.length) w2 (by omega) hw2 hw3
def noCol (es:List (Int × Int)) (c:List Int) (x:Int):List Int:=filtB (fun j=>c.getD j 0 != x) es.length
noncomputable def cycNo (es:List (Int × Int)) (c:List Int) (x:Int):List (List Int):=cycOf es (bitB (noCol es c x)) (noCol es c x)
noncomputable def covTo (es:List (Int × Int)) (c:List Int):Nat→List (List Int)
 | 0=>[]
 | k+1=>covTo es c k++cycNo es c (2-k)
theorem zdW (es:List (Int × Int)) (c:List Int) (x:Int):IsS (noCol es c x) es.length:=zc2 (zaL _ _) fun y hy=>by
 obtain ⟨j,rfl,h,_⟩:=zar.1 hy
 omega
theorem zeM {x:Int}:(cycNo es c x).length≤es.length:=Nat.le_trans zhy (zas _ _)
theorem zcU:∀ k,(covTo es c k).length≤k*es.length
 | 0=>by simp [covTo]
 | k+1=>by
  have:=zcU k
  have:=zeM (es:=es) (c:=c) (x:=2-k)
  rw [covTo,List.length_append,Nat.add_mul];omega
def Vals (es:List (Int × Int)) (c:List Int) (lo hi:Int):Prop:=c.length=es.length∧∀ x∈c,lo≤x∧x≤hi
noncomputable instance (es:List (Int × Int)) (c:List Int) (lo hi:Int):Decidable (Vals es c lo hi):=Classical.propDecidable _
noncomputable def covCode (n:Int) (es:List (Int × Int)) (c:List Int):Int:=if IsG n es then (if Vals es c 0 2 then (if IsC es c then 0 else 5) else 2) else 1
noncomputable def covList (n:Int) (es:List (Int × Int)) (c:List Int):List (List Int):=if covCode n es c=0 then covTo es c 3 else []
theorem zeT {n:Int} (h:covCode n es c=0):IsG n es∧IsC es c:=by
 unfold covCode at h
 by_cases hg:IsG n es
 ·rw [if_pos hg] at h
  by_cases hv:Vals es c 0 2
  ·rw [if_pos hv] at h
   by_cases hc:IsC es c
   ·exact ⟨hg,hc⟩
   ·rw [if_neg hc] at h;cases h
  ·rw [if_neg hv] at h;cases h
 ·rw [if_neg hg] at h;cases h
theorem zAF {n:Int} (hg:IsG n es) (hl:c.length=es.length) (hr:∀ x∈c,0≤x∧x≤2) :
 IsC es c↔∀ w:Nat,(w:Int)<n→∀ a b,a<b→b<3→c.getD ((atL es w).getD a 0).toNat 0≠c.getD ((atL es w).getD b 0).toNat 0:=by
 have asc:∀ w:Int,Asc (atL es w):=fun w=>zaL _ _
 constructor
 ·intro hc w hw a b hab hb
  have h3:=hg.three (v:=w) (by omega) hw
  obtain ⟨i,hi1,hi2,hi3⟩:=zc4 (es:=es) (w:=w) (t:=a) (by omega)
  obtain ⟨j,hj1,hj2,hj3⟩:=zc4 (es:=es) (w:=w) (t:=b) (by omega)
  have hlt:(i:Int)<j:=by
   have:=asc w
   unfold Asc at this
   rw [List.pairwise_iff_getElem] at this
   have:=this a b (by omega) (by omega) hab
   rwa [← zae (d:=0),← zae (d:=0),hi1,hj1] at this
  rw [hi1,hj1,Int.toNat_natCast,Int.toNat_natCast]
  exact hc.col j hj2 i (by omega) ⟨w,hi3,hj3⟩
 ·intro h
  refine ⟨hl,hr,fun j hj i hij ⟨w,h1,h2⟩=>?_⟩
  obtain ⟨e1,e2,e3,e4,_⟩:=hg.ed.ends es[i] (List.getElem_mem (by omega))
  rw [zae (by omega)] at h1
  have hw:0≤w∧w<n:=by
   unfold on at h1
   simp only [Bool.or_eq_true,beq_iff_eq] at h1
   omega
  rw [← zae (d:=(0,0)) (by omega)] at h1
  have mi:(i:Int)∈atL es w:=zaN.2 ⟨i,rfl,by omega,h1⟩
  have mj:(j:Int)∈atL es w:=zaN.2 ⟨j,rfl,hj,h2⟩
  obtain ⟨a,ha,ha'⟩:=List.getElem_of_mem mi
  obtain ⟨b,hb,hb'⟩:=List.getElem_of_mem mj
  have h3:=hg.three hw.1 hw.2
  have hab:a<b:=by
   rcases Nat.lt_trichotomy a b with h|h|h
   ·exact h
   ·subst h;omega
   ·have:=asc w
    unfold Asc at this
    rw [List.pairwise_iff_getElem] at this
    have:=this b a hb ha h
    omega
  have:=h w.toNat (by omega) a b hab (by omega)
  rw [show ((w.toNat:Nat):Int)=w by omega,zae ha,zae hb,ha',hb'] at this
  simpa using this
theorem zm4 {n lo hi:Int} (h:Edges H v es) (hl:es.length≤1048576) (hc:Ints H u c) (hcl:c.length≤1048576) (k:∀ G,H.le G→K (.bool (decide (Vals es c lo hi))) G) :
 AC Tryz.prog T0 79 [.agg ⟨[.int .i64 n,v]⟩,u,.int .i64 lo,.int .i64 hi] H K:=by
 apply F79.ac
 unfold F79.B2
 refine zaf (zak (zah h)) fun H1 l1 n1 o1=>zaf rfl fun H2 l2 n2 o2=>zaf rfl fun H3 l3 n3 o3=>?_
 have l13:=AHeap.le_trans l1 (AHeap.le_trans l2 l3)
 unfold F79.B1
 refine (hc.le l13).len (zab ((o1.le l2).le l3) rfl ((h.le l13).len (zaa (fun hb=>?_) fun hb=>?_)))
 ·have hlen:c.length=es.length:=by have:=beq_iff_eq.1 hb;omega
  refine zd9 (p:=fun x=>decide (lo≤x∧x≤hi)) (hc.le l13) (by omega) rfl (fun x _=>?_) fun G hG=>zai ?_
  ·intro G hG K k
   refine zaJ ?_
   apply F135.ac
   unfold F135.B2 F135.B1
   exact zaq (zac ((o2.le l3).le hG) rfl (zaq (zac (o3.le hG) rfl (zbZ (zai (k _ (AHeap.le_refl _)))))))
  ·have k:=k _ (AHeap.le_trans l13 hG)
   have e:c.all (fun x=>decide (lo≤x∧x≤hi))=decide (Vals es c lo hi):=by
    rw [Bool.eq_iff_iff,List.all_eq_true,decide_eq_true_iff]
    constructor
    ·intro h;exact ⟨hlen,fun x hx=>of_decide_eq_true (h x hx)⟩
    ·rintro ⟨_,h⟩ x hx;exact decide_eq_true (h x hx)
   rw [e];exact k
 ·have k:=k _ l13
  rw [decide_eq_false fun hv:Vals es c lo hi=>by have:=hv.1;have:=beq_eq_false_iff_ne.1 hb;omega] at k
  exact k
theorem zhB {n:Int} (h:Edges H v es) (hl:es.length≤1048576) (hc:Ints H u c) (hcl:c.length≤1048576)
 (k:∀ v' G,H.le G→RowsF (fun b=>H.length≤b) G.length G v' (covList n es c)→K (.tuple ⟨[v',.int .i64 (covCode n es c)]⟩) G):AC Tryz.prog T0 26 [.agg ⟨[.int .i64 n,v]⟩,u] H K:=by
 apply F26.ac
 unfold F26.B33
 refine zaf (zak (zah h)) fun H1 l1 n1 o1=>?_
 have nil:∀ x G,H.le G→covCode n es c=x→x≠0→K (.tuple ⟨[.slice none 0 0,.int .i64 x]⟩) G:=by
  intro x G hG hx h0
  have k:=k (.slice none 0 0) G hG (by rw [covList,if_neg (by rw [hx];exact h0)];exact .nil)
  rw [hx] at k;exact k
 unfold F26.B32
 refine zac o1 rfl (zab o1 rfl (zbp (h.le l1) hl fun H2 l2=>zai ?_))
 have l12:=AHeap.le_trans l1 l2
 have o2:=o1.le l2
 refine zaa (fun hb=>?_) fun hb=>?_
 ·rw [Bool.not_eq_true'] at hb
  unfold F26.B31
  exact nil 1 _ l12 (by unfold covCode;rw [if_neg (of_decide_eq_false hb)]) (by decide)
 ·rw [Bool.not_eq_false'] at hb
  have hg:IsG n es:=of_decide_eq_true hb
  have n0:=hg.ed.lo;have nn1:=hg.ed.hi
  have h30:es.length≤30:=by have:=hg.ed.len;omega
  unfold F26.B30
  refine (hc.le l12).len (zab o2 rfl ((h.le l12).len (zaa (fun hb=>?_) fun hb=>?_)))
  ·unfold F26.B29
   exact nil 2 _ l12 (by unfold covCode;rw [if_pos hg,if_neg fun hv:Vals es c 0 2=>by have:=hv.1;have:=bne_iff_ne.1 hb;omega]) (by decide)
  ·have hlen:c.length=es.length:=by have:=bne_eq_false_iff_eq.1 hb;omega
   unfold F26.B28 F26.L23
   refine ⟨fun x1 x2 x6 G=>u=x1∧H.length=x2∧H2=G∧∃ i:Nat,x6=i∧i≤c.length∧∀ j,j<i→0≤c.getD j 0∧c.getD j 0≤2,fun _ _ x6 _=>c.length-x6.toNat,⟨rfl,rfl,rfl,0,rfl,by omega,fun j hj=>absurd hj (by omega)⟩,?_⟩
   rintro x1 x2 x6 G ⟨rfl,rfl,rfl,i,rfl,hi,hp⟩
   unfold F26.B27
   refine (hc.le l12).len (zaa (fun hb=>?_) fun hb=>?_)
   ·have hlt:i<c.length:=by have:=of_decide_eq_true hb;omega
    unfold F26.B26
    refine (hc.le l12).rd (by omega) (by omega) (zb5 (zai ?_))
    rw [Int.toNat_natCast]
    refine zaa (fun hs=>?_) fun hs=>?_
    ·rw [Bool.not_eq_true'] at hs
     unfold F26.B25
     exact nil 2 _ l12 (by unfold covCode;rw [if_pos hg,if_neg fun hv:Vals es c 0 2=>of_decide_eq_false hs (by rw [zae hlt];exact hv.2 _ (List.getElem_mem hlt))]) (by decide)
    ·rw [Bool.not_eq_false'] at hs
     unfold F26.B24
     rw [zad (by omega) (by omega)]
     refine ⟨⟨rfl,rfl,rfl,i+1,by omega,by omega,fun j hj=>?_⟩,by simp;omega⟩
     by_cases e:j=i
     ·subst e;exact of_decide_eq_true hs
     ·exact hp j (by omega)
   ·have hge:i=c.length:=by have:=of_decide_eq_false hb;omega
    subst hge
    have hr:∀ x∈c,0≤x∧x≤2:=fun x hx=>by
     obtain ⟨j,hj,rfl⟩:=List.getElem_of_mem hx
     have:=hp j hj
     rwa [zae hj] at this
    have hV:Vals es c 0 2:=⟨hlen,hr⟩
    have hcol:=zAF hg hlen hr
    have hcode:covCode n es c=if IsC es c then 0 else 5:=by unfold covCode;rw [if_pos hg,if_pos hV]
    unfold F26.B22 F26.L15
    refine ⟨fun x1 x2 x7 G=>u=x1∧H.length=x2∧H2.le G∧∃ w:Nat,x7=w∧(w:Int)≤n∧∀ w',w'<w→∀ a b,a<b→b<3→c.getD ((atL es w').getD a 0).toNat 0≠c.getD ((atL es w').getD b 0).toNat 0,fun _ _ x7 _=>(n-x7).toNat,⟨rfl,rfl,AHeap.le_refl _,0,rfl,by omega,fun w' h=>absurd h (by omega)⟩,?_⟩
    rintro x1 x2 x7 G ⟨rfl,rfl,hG,w,rfl,hw,hq⟩
    have lG:=AHeap.le_trans l12 hG
    have oG:=o2.le hG
    unfold F26.B21
    refine zac oG rfl (zaa (fun hb=>?_) fun hb=>?_)
    ·have hwn:=of_decide_eq_true hb
     have h3:=hg.three (v:=w) (by omega) hwn
     unfold F26.B20
     refine zac oG rfl (zab oG rfl (zcO (h.le lG) hl fun q H3 l3 f3=>?_))
     have hc3:=hc.le (AHeap.le_trans lG l3)
     have at3:∀ t:Nat,t<3→∃ i:Nat,(atL es w).getD t 0=i∧i<es.length:=fun t ht=>by
      obtain ⟨i,h1,h2,_⟩:=zc4 (es:=es) (w:=w) (t:=t) (by omega)
      exact ⟨i,h1,h2⟩
     obtain ⟨i0,a1,a2⟩:=at3 0 (by omega)
     obtain ⟨i1,b1,b2⟩:=at3 1 (by omega)
     obtain ⟨i2,c1,c2⟩:=at3 2 (by omega)
     unfold F26.B19
     refine f3.ints.rd (by decide) (by omega) ?_
     rw [show (0:Int).toNat=0 from rfl,a1]
     refine hc3.rd (by omega) (by omega) (f3.ints.rd (by decide) (by omega) ?_)
     rw [show (1:Int).toNat=1 from rfl,b1]
     refine hc3.rd (by omega) (by omega) (f3.ints.rd (by decide) (by omega) ?_)
     rw [show (2:Int).toNat=2 from rfl,c1]
     refine hc3.rd (by omega) (by omega) ?_
     simp only [Int.toNat_natCast]
     have no:∀ a b,a<b→b<3→c.getD ((atL es w).getD a 0).toNat 0=c.getD ((atL es w).getD b 0).toNat 0→∀ N,F26.B17 K N H3:=by
      intro a b hab hb3 he N
      unfold F26.B17
      exact nil 5 _ (AHeap.le_trans lG l3) (by rw [hcode,if_neg fun hi:IsC es c=>hcol.1 hi w hwn a b hab hb3 he]) (by decide)
     unfold F26.B18
     refine zaa (fun hs=>?_) fun hs=>zaa (fun ht=>?_) fun ht=>zaa (fun hu=>?_) fun hu=>?_
     ·exact no 0 1 (by omega) (by omega) (by rw [a1,b1];simpa using hs) _
     ·exact no 0 2 (by omega) (by omega) (by rw [a1,c1];simpa using ht) _
     ·exact no 1 2 (by omega) (by omega) (by rw [b1,c1];simpa using hu) _
     ·unfold F26.B16
      rw [zad (by omega) (by omega)]
      refine ⟨⟨rfl,rfl,AHeap.le_trans hG l3,w+1,by omega,by omega,fun w' hw' a b hab hb3=>?_⟩,show (n-((w:Int)+1)).toNat<(n-(w:Int)).toNat by omega⟩
      by_cases e:w'=w
      ·subst e
       have:(a=0∧b=1)∨(a=0∧b=2)∨(a=1∧b=2):=by omega
       rcases this with ⟨rfl,rfl⟩|⟨rfl,rfl⟩|⟨rfl,rfl⟩
       ·rw [a1,b1];simpa using hs
       ·rw [a1,c1];simpa using ht
       ·rw [b1,c1];simpa using hu
      ·exact hq w' (by omega) a b hab hb3
    ·have hge:=of_decide_eq_false hb
     have hC:IsC es c:=hcol.2 fun w' hw'=>hq w' (by omega)
     rw [if_pos hC] at hcode
     unfold F26.B14
     refine zaf rfl fun H4 l4 n4 o4=>?_
     have l14:=AHeap.le_trans lG l4
     unfold F26.B13 F26.L2
     refine ⟨fun x1 x2 x12 x13 G'=>u=x1∧H.length=x2∧G.le G'∧∃ k:Nat,x13=2-(k:Int)∧k≤3∧RowsF (fun b=>G.length≤b) G'.length G' x12 (covTo es c k),fun _ _ _ x13 _=>(x13+1).toNat,⟨rfl,rfl,l4,0,rfl,by omega,.nil1 o4 (Nat.le_refl _) o4.lt⟩,?_⟩
     rintro x1 x2 x12 x13 G1 ⟨rfl,rfl,hG1,k0,rfl,hk0,hR⟩
     have lG1:=AHeap.le_trans lG hG1
     have oG1:=oG.le hG1
     unfold F26.B12
     refine zaa (fun hb=>?_) fun hb=>?_
     ·have hk3:k0<3:=by have:=of_decide_eq_true hb;omega
      unfold F26.B11
      refine zaf rfl fun H5 l5 n5 o5=>?_
      unfold F26.B10 F26.L5
      refine ⟨fun x1 x2 x12' x13 x14 x15 G'=>u=x1∧H.length=x2∧x12=x12'∧2-(k0:Int)=x13∧G1.le G'∧∃ i:Nat,x15=i∧i≤es.length∧Fresh G1.length G' x14 2 1 (LI (filtB (fun j=>c.getD j 0 != 2-(k0:Int)) i)),fun _ _ _ _ _ x15 _=>es.length-x15.toNat,⟨rfl,rfl,rfl,rfl,l5,0,rfl,by omega,.inr ⟨_,0,Nat.le_refl _,rfl,o5,rfl⟩⟩,?_⟩
      rintro x1 x2 x12' x13 x14 x15 G2 ⟨rfl,rfl,rfl,rfl,hG2,i,rfl,hi,hF⟩
      have lG2:=AHeap.le_trans lG1 hG2
      unfold F26.B9
      refine (hc.le lG2).len (zaa (fun hb=>?_) fun hb=>?_)
      ·have hlt:i<es.length:=by have:=of_decide_eq_true hb;omega
       unfold F26.B8
       refine (hc.le lG2).rd (by omega) (by omega) ?_
       rw [Int.toNat_natCast]
       refine zaa (fun hs=>?_) fun hs=>?_
       ·unfold F26.B7
        refine hF.sl.pushN zbl (by decide) hG2.1 (n:=1) (ys:=[.int .i64 i]) rfl rfl (by have:=zas (fun j=>c.getD j 0 != 2-(k0:Int)) i;simp only [List.length_map,List.length_singleton];omega) (by simp) fun v' G3 k3 _ _ f3=>?_
        unfold F26.B6
        rw [zad (by omega) (by omega)]
        refine ⟨⟨rfl,rfl,rfl,rfl,k3.le hG2 (Nat.le_refl _),i+1,by omega,by omega,?_⟩,by simp;omega⟩
        rw [zaH,if_pos hs];simpa using f3
       ·unfold F26.B6
        rw [zad (by omega) (by omega)]
        refine ⟨⟨rfl,rfl,rfl,rfl,hG2,i+1,by omega,by omega,?_⟩,by simp;omega⟩
        rw [zaH,if_neg (by rw [hs];decide),List.append_nil];exact hF
      ·have hge:i=es.length:=by have:=of_decide_eq_false hb;omega
       subst hge
       unfold F26.B4
       refine zac (oG1.le hG2) rfl (zab (oG1.le hG2) rfl (zeZ (l:=noCol es c (2-(k0:Int))) (h.le lG2) hg hF.ints (zdW _ _ _) fun w' G3 l3 hR3=>?_))
       have hcl2:=zcU (es:=es) (c:=c) k0
       have hcn:=zeM (es:=es) (c:=c) (x:=2-(k0:Int))
       have hk03:k0*es.length≤90:=Nat.le_trans (Nat.mul_le_mul (show k0≤3 by omega) h30) (by decide)
       refine ((hR.le hG2).le l3).app (hR3.mono (fun b hb=>Nat.le_trans hG2.1 hb) (Nat.le_refl _)) (Nat.le_trans hG2.1 l3.1) (Nat.le_refl _) (fun b hb=>Nat.le_trans hG1.1 hb) (by unfold cycNo at hcn;omega) fun v' G4 ot hlen4 hR4=>?_
       unfold F26.B3
       rw [zad (by omega) (by omega)]
       refine ⟨⟨rfl,rfl,?_,k0+1,by omega,by omega,hR4⟩,show (2-(k0:Int)-1+1).toNat<(2-(k0:Int)+1).toNat by omega⟩
       refine ⟨by have:=hG1.1;have:=hG2.1;have:=l3.1;omega,fun b o ho=>ot b o (fun hv=>?_) (l3.2 _ _ (hG2.2 _ _ (hG1.2 _ _ ho)))⟩
       obtain ⟨vs,_,_,q3,_⟩:=hR
       have:G.length≤b:=(q3 b hv).1
       have:=zaj ho
       omega
     ·have hk3:k0=3:=by have:=of_decide_eq_false hb;omega
      subst hk3
      unfold F26.B1
      have k:=k x12 G1 lG1 (by rw [covList,if_pos hcode];exact hR.mono (fun b hb=>Nat.le_trans lG.1 hb) (Nat.le_refl _))
      rw [hcode] at k;exact k
theorem zns {n:Int} (h:Edges H v es) (hl:es.length≤1048576) (hc:Ints H u c) (hcl:c.length≤1048576)
 (k:∀ v' G,H.le G→RowsF (fun b=>H.length≤b) G.length G v' (covList n es c)→K (.tuple ⟨[v',.int .i64 (covCode n es c)]⟩) G):AC Tryz.prog T0 25 [.agg ⟨[.int .i64 n,v]⟩,u] H K:=by
 apply F25.ac
 unfold F25.B22
 refine zaf (zak (zah h)) fun H1 l1 n1 o1=>?_
 have nil:∀ x G,H.le G→covCode n es c=x→x≠0→K (.tuple ⟨[.slice none 0 0,.int .i64 x]⟩) G:=by
  intro x G hG hx h0
  have k:=k (.slice none 0 0) G hG (by rw [covList,if_neg (by rw [hx];exact h0)];exact .nil)
  rw [hx] at k;exact k
 unfold F25.B21
 refine zac o1 rfl (zab o1 rfl (zac o1 rfl (zab o1 rfl (zm4 (h.le l1) hl (hc.le l1) hcl fun H2 l2=>zai ⟨l2,zaA (h.le (AHeap.le_trans l1 l2)) hl fun H3 l3=>zag ?_⟩))))
 have l13:=AHeap.le_trans l1 (AHeap.le_trans l2 l3)
 have o3:=(o1.le l2).le l3
 unfold F25.B20
 by_cases hg:IsG n es
 ·rw [if_pos hg]
  have n0:=hg.ed.lo;have nn1:=hg.ed.hi
  have h30:es.length≤30:=by have:=hg.ed.len;omega
  by_cases hV:Vals es c 0 2
  ·rw [decide_eq_true hV,if_pos rfl]
   refine zaz rfl ?_
   have hcode:covCode n es c=if IsC es c then 0 else 5:=by unfold covCode;rw [if_pos hg,if_pos hV]
   unfold F25.B18
   refine zac o3 rfl (zab o3 rfl (zfG (h.le l13) hl hg (hc.le l13) hcl fun H4 l4=>zai ?_))
   have l14:=AHeap.le_trans l13 l4
   have o4:=o3.le l4
   refine zaa (fun hb=>?_) fun hb=>?_
   ·rw [Bool.not_eq_true'] at hb
    unfold F25.B17
    exact nil 5 _ l14 (by rw [hcode,if_neg (of_decide_eq_false hb)]) (by decide)
   ·rw [Bool.not_eq_false'] at hb
    rw [if_pos (of_decide_eq_true hb)] at hcode
    have hlen:=hV.1
    unfold F25.B16 F25.B15
    refine zaf rfl fun H5 l5 n5 o5=>?_
    have i5:Ints H5 (.slice (some ⟨H4.length,0,none⟩) 3 (3+1)) [2,1,0]:=zau (l:=[2,1,0]) o5
    unfold F25.L2
    refine ⟨fun x1 x2 x7 x25 x26 x27 G=>u=x1∧H.length=x2∧.slice (some ⟨H4.length,0,none⟩) 3 (3+1)=x25∧3=x26∧H5.le G∧∃ k:Nat,x27=k∧k≤3∧RowsF (fun b=>H5.length≤b) G.length G x7 (covTo es c k),fun _ _ _ _ _ x27 _=>3-x27.toNat,⟨rfl,rfl,rfl,rfl,AHeap.le_refl _,0,rfl,by omega,.nil⟩,?_⟩
    rintro x1 x2 x7 x25 x26 x27 G1 ⟨rfl,rfl,rfl,rfl,hG1,k0,rfl,hk0,hR⟩
    have lG1:=AHeap.le_trans l14 (AHeap.le_trans l5 hG1)
    have oG1:=(o4.le l5).le hG1
    unfold F25.B14
    refine zaa (fun hb=>?_) fun hb=>?_
    ·have hk3:k0<3:=by have:=of_decide_eq_true hb;omega
     have hget:([2,1,0]:List Int).getD k0 0=2-(k0:Int):=by
      rcases (by omega:k0=0∨k0=1∨k0=2) with rfl|rfl|rfl <;> rfl
     unfold F25.B13
     refine (i5.le hG1).rd (by omega) (by simp;omega) ?_
     rw [Int.toNat_natCast,hget]
     unfold F25.B12 F25.B11
     refine (hc.le lG1).len ?_
     unfold F25.L5
     refine ⟨fun x1 x2 x7' x9 x10 x25 x26 x27 x31 x32 x33 G=>u=x1∧H.length=x2∧x7=x7'∧2-(k0:Int)=x9∧.slice (some ⟨H4.length,0,none⟩) 3 (3+1)=x25∧3=x26∧(k0:Int)=x27∧u=x31∧(c.length:Int)=x32∧G1=G∧∃ i:Nat,x33=i∧i≤es.length∧x10=(setN (filtB (fun j=>c.getD j 0 != 2-(k0:Int)) i):Nat),fun _ _ _ _ _ _ _ _ _ _ x33 _=>es.length-x33.toNat,⟨rfl,rfl,rfl,rfl,rfl,rfl,rfl,rfl,rfl,rfl,0,rfl,by omega,rfl⟩,?_⟩
     rintro x1 x2 x7' x9 x10 x25 x26 x27 x31 x32 x33 G2 ⟨rfl,rfl,rfl,rfl,rfl,rfl,rfl,rfl,rfl,rfl,i,rfl,hi,rfl⟩
     have hfl:∀ i,i≤es.length→setN (filtB (fun j=>c.getD j 0 != 2-(k0:Int)) i)<2^64:=fun i hi=>za8 fun x hx=>by
      obtain ⟨j,rfl,h1,_⟩:=zar.1 hx
      omega
     unfold F25.B10
     refine zaa (fun hb=>?_) fun hb=>?_
     ·have hlt:i<es.length:=by have:=of_decide_eq_true hb;omega
      unfold F25.B9
      refine (hc.le lG1).rd (by omega) (by omega) ?_
      rw [Int.toNat_natCast]
      unfold F25.B8
      refine zaa (fun hs=>?_) fun hs=>?_
      ·unfold F25.B7
       refine ⟨by omega,?_⟩
       have pi:2^i<2^64:=Nat.pow_lt_pow_right (by decide) (by omega)
       rw [zbq (by omega) (by omega),Int.toNat_natCast,zbG (hfl i hi) pi]
       unfold F25.B6
       rw [zad (by omega) (by omega)]
       refine ⟨⟨rfl,rfl,rfl,rfl,rfl,rfl,rfl,rfl,rfl,rfl,i+1,by omega,by omega,?_⟩,by simp;omega⟩
       rw [zaH,if_pos hs]
       simp [setN]
      ·unfold F25.B6
       rw [zad (by omega) (by omega)]
       refine ⟨⟨rfl,rfl,rfl,rfl,rfl,rfl,rfl,rfl,rfl,rfl,i+1,by omega,by omega,?_⟩,by simp;omega⟩
       rw [zaH,if_neg (by rw [hs];decide),List.append_nil]
     ·have hge:i=es.length:=by have:=of_decide_eq_false hb;omega
      subst hge
      have hS:=zdW es c (2-(k0:Int))
      rw [show filtB (fun j=>c.getD j 0 != 2-(k0:Int)) es.length=noCol es c (2-(k0:Int)) from rfl]
      unfold F25.B4
      refine zac oG1 rfl (zab oG1 rfl (zeJ (h.le lG1) hg (zul hS (by omega)) (fun j hj=>zeg hS hj) fun w3 G3 l3 f3=>?_))
      rw [zlL hS,show (fun j=>(setN (noCol es c (2-(k0:Int)))).testBit j)=bitB (noCol es c (2-(k0:Int))) from rfl] at f3
      have hzb:∀ z∈cycN es (bitB (noCol es c (2-(k0:Int)))) (noCol es c (2-(k0:Int))),z<2^64:=by
       intro z hz
       unfold cycN at hz
       obtain ⟨y,_,rfl⟩:=List.mem_map.1 hz
       exact zhY (by omega)
      have hll:=hS.short
      refine zk5 f3.sl (by have:(cycN es (bitB (noCol es c (2-(k0:Int)))) (noCol es c (2-(k0:Int)))).length≤(noCol es c (2-(k0:Int))).length:=(by unfold cycN;rw [List.length_map];exact List.length_filter_le _ _);omega) hzb fun w4 G4 l4 hR4=>?_
      rw [zj8 (by omega)] at hR4
      have hcl2:=zcU (es:=es) (c:=c) k0
      have hcn:=zeM (es:=es) (c:=c) (x:=2-(k0:Int))
      have hk03:k0*es.length≤90:=Nat.le_trans (Nat.mul_le_mul (show k0≤3 by omega) h30) (by decide)
      refine ((hR.le l3).le l4).app (hR4.mono (fun b hb=>Nat.le_trans l3.1 hb) (Nat.le_refl _)) (Nat.le_trans l3.1 l4.1) (Nat.le_refl _) (fun b hb=>Nat.le_trans hG1.1 hb) (by unfold cycNo at hcn;omega) fun v' G5 ot hlen5 hR5=>?_
      unfold F25.B3
      rw [zad (by omega) (by omega)]
      refine ⟨⟨rfl,rfl,rfl,rfl,?_,k0+1,by omega,by omega,hR5⟩,by simp;omega⟩
      refine ⟨by have:=hG1.1;have:=l3.1;have:=l4.1;omega,fun b o ho=>ot b o (fun hv=>?_) (l4.2 _ _ (l3.2 _ _ (hG1.2 _ _ ho)))⟩
      obtain ⟨vs,_,_,q3,_⟩:=hR
      have:H5.length≤b:=(q3 b hv).1
      have:=zaj ho
      omega
    ·have hk3:k0=3:=by have:=of_decide_eq_false hb;omega
     subst hk3
     unfold F25.B1
     have k:=k x7 G1 lG1 (by rw [covList,if_pos hcode];exact hR.mono (fun b hb=>Nat.le_trans (Nat.le_trans l14.1 l5.1) hb) (Nat.le_refl _))
     rw [hcode] at k;exact k
  ·rw [decide_eq_false hV]
   refine zay rfl ?_
   unfold F25.B19
   exact nil 2 _ l13 (by unfold covCode;rw [if_pos hg,if_neg hV]) (by decide)
 ·rw [if_neg hg]
  refine zay rfl ?_
  unfold F25.B19
  exact nil 1 _ l13 (by unfold covCode;rw [if_neg hg]) (by decide)
end Go.Proofs
namespace Go.Proofs
open Go.Abs

variable {H G:AHeap} {v u f w:Value} {l m:List Int} {es fs:List (Int × Int)} {K:Value→AHeap→Prop} {n:Int} {e en:Nat}

end Go.Proofs
namespace Go.Proofs
open Go.Abs

variable {H G:AHeap} {v u f w:Value} {l m:List Int} {es fs:List (Int × Int)} {K:Value→AHeap→Prop} {n:Int} {e en:Nat}

end Go.Proofs
namespace Go.Proofs
open Go.Abs

variable {B H G G':AHeap} {b N:Nat} {L S M:List Nat} {R:List Value} {cmp:Value} {c:Nat→Nat→Int} {dom:Nat→Prop} {K:Value→AHeap→Prop}

end Go.Proofs
namespace Go.Proofs
open Go.Abs

variable {B H G G':AHeap} {b N:Nat} {L S M:List Nat} {R:List Value} {cmp:Value} {c:Nat→Nat→Int} {dom:Nat→Prop} {K:Value→AHeap→Prop}

end Go.Proofs
namespace Go.Proofs
open Go.Abs

variable {H G:AHeap} {v u f:Value} {l m c D:List Int} {es fs:List (Int × Int)} {K:Value→AHeap→Prop} {n:Int}

end Go.Proofs
namespace Go.Proofs
open Go.Abs

variable {H G B:AHeap} {v u f:Value} {l m:List Int} {es fs:List (Int × Int)} {K:Value→AHeap→Prop} {n:Int} {L A:List Nat}

end Go.Proofs
namespace Go.Proofs
open Go.Abs

variable {H G B:AHeap} {v u f:Value} {l m:List Int} {es fs:List (Int × Int)} {K:Value→AHeap→Prop} {n:Int} {L A:List Nat}

end Go.Proofs
namespace Go.Proofs
open Go.Abs

variable {H G B:AHeap} {v u f:Value} {l m:List Int} {es fs:List (Int × Int)} {K:Value→AHeap→Prop} {n:Int} {L A:List Nat}

end Go.Proofs
namespace Go.Proofs
open Go.Abs

variable {H G:AHeap} {v u f w:Value} {l m:List Int} {es fs:List (Int × Int)} {K:Value→AHeap→Prop} {n:Int} {A:Nat→Prop} {B:Nat} {ls R:List (List Int)}

end Go.Proofs
namespace Go.Proofs
open Go.Abs

variable {H G Hb:AHeap} {v u f w:Value} {l m c:List Int} {K:Value→AHeap→Prop} {A:Nat→Prop} {B m0 bs:Nat} {ls ms:List (List Int)}

def RowsT (m0:Nat) (H:AHeap) (v:Value) (ls:List (List Int)):Prop:=
 ∃ vs:List Value,Sl m0 H v 27 1 vs∧vs.length=ls.length∧∀ i,i<ls.length→∃ w,vs[i]?=some w∧Fresh m0 H w 2 1 (LI (ls.getD i []))∧∀ b,bk w=some b→bk v≠some b
theorem RowsF.toT (h:RowsF A B H v ls) (ha:∀ b,A b→m0≤b):RowsT m0 H v ls:=by
 obtain ⟨vs,h1,h2,h3,h4⟩:=h
 refine ⟨vs,(zdJ h1 fun b hb=>ha b (h3 b hb).1).sl,h2,fun i hi=>?_⟩
 obtain ⟨w,g1,g2,g3⟩:=h4 i hi
 exact ⟨w,g1,zdJ g2 fun b hb=>ha b (g3 b hb).1,fun b hb=>(g3 b hb).2.2.1⟩
theorem RowsT.less {m1:Nat} (h:RowsT m0 H v ls) (hm:m1≤m0):RowsT m1 H v ls:=by
 obtain ⟨vs,h1,h2,h4⟩:=h
 refine ⟨vs,h1.less hm,h2,fun i hi=>?_⟩
 obtain ⟨w,g1,g2,g3⟩:=h4 i hi
 exact ⟨w,g1,g2.less hm,g3⟩
theorem RowsT.move (h:RowsT m0 H v ls) (k:∀ b o,m0≤b→H[b]?=some (some o)→G[b]?=some (some o)):RowsT m0 G v ls:=by
 obtain ⟨vs,h1,h2,h4⟩:=h
 refine ⟨vs,?_,h2,fun i hi=>?_⟩
 ·rcases h1 with h1|⟨b,n,pre,post,g1,g2,g3,g4⟩
  ·exact .inl h1
  ·exact .inr ⟨b,n,pre,post,g1,g2,k b _ g1 g3,g4⟩
 ·obtain ⟨w,g1,g2,g3⟩:=h4 i hi
  exact ⟨w,g1,zaM g2 fun b o hb ho=>k b o (g2.bk_lt hb).1 ho,g3⟩
theorem RowsT.le (h:RowsT m0 H v ls) (hl:H.le G):RowsT m0 G v ls:=h.move fun b o _ ho=>hl.2 b o ho
theorem RowsT.kb (h:RowsT m0 H v ls) (hk:Kb bs H G) (hm:bs<m0):RowsT m0 G v ls:=h.move fun b o hb ho=>hk.old b o (by omega) ho
theorem RowsT.but {b:Nat} (h:RowsT m0 H v ls) (hb:But b H G) (hm:b<m0):RowsT m0 G v ls:=h.move fun c o hc ho=>by rw [hb.same c (by omega)];exact ho
theorem RowsT.len (h:RowsT m0 H v ls) {K:Nat→Prop} (k:K ls.length):lenK v K:=by
 obtain ⟨vs,h1,h2,_⟩:=h
 exact h1.len (by decide) (n:=ls.length) (by omega) k
theorem RowsT.toR (h:RowsT m0 H v ls):RowsR H v ls:=by
 obtain ⟨vs,h1,h2,h4⟩:=h
 rcases h1 with ⟨rfl,h1⟩|⟨b,n,pre,post,_,rfl,ho,hn⟩
 ·have:ls=[]:=List.length_eq_zero_iff.1 (by rw [← h2];rfl)
  subst this
  rcases h1 with rfl|⟨a,rfl⟩
  ·exact .inl ⟨rfl,rfl⟩
  ·exact .inr ⟨a,0,rfl,.inl rfl⟩
 ·obtain rfl:n=ls.length:=by omega
  refine .inr ⟨_,_,rfl,.inr ⟨rfl,fun i hi=>?_⟩⟩
  obtain ⟨w,g1,g2,_⟩:=h4 i hi
  refine ⟨w,?_,g2.ints⟩
  rw [Own.cell ho,List.append_assoc,List.getElem?_append_right (Nat.le_add_right _ _),Nat.add_sub_cancel_left,List.getElem?_append_left (by omega)]
  exact g1
theorem zyn {m:Nat} {t:TypeId} {cs:List Value} {i n:Nat} {K:Value→Prop} (h:Sl m H v t 1 cs) (hn:cs.length=n) (h0:0<n) (hi:i≤n) (k:∀ v',Sl m H v' t 1 (cs.drop i)→bk v'=bk v→K v'):sliceK H t v (some (.int .i64 (i:Int))) none 1 K:=by
 rcases h with ⟨rfl,_⟩|⟨b,c,pre,post,hb,rfl,ho,hc⟩
 ·simp at hn;omega
 ·refine ⟨⟨_,_,ho,by simp;omega⟩,by simp,by simp;omega,by simp,?_⟩
  have e:c-i=n-i:=by omega
  refine k _ (.inr ⟨b,c-i,pre++cs.take i,post,hb,?_,?_,by simp;omega⟩) rfl
  ·simp
  ·rw [List.append_assoc pre,List.take_append_drop];exact ho
theorem RowsT.tail (h:RowsT m0 H v ls) (h0:0<ls.length) {K:Value→Prop} (k:∀ v',RowsT m0 H v' (ls.drop 1)→K v'):sliceK H 27 v (some (.int .i64 1)) none 1 K:=by
 obtain ⟨vs,h1,h2,h4⟩:=h
 refine zyn (i:=1) h1 h2 h0 h0 fun v' h' hb'=>k v' ⟨_,h',by simp [h2],fun j hj=>?_⟩
 rw [List.length_drop] at hj
 obtain ⟨w,g1,g2,g3⟩:=h4 (1+j) (by omega)
 refine ⟨w,by rw [List.getElem?_drop];exact g1,?_,fun b hb=>by rw [hb'];exact g3 b hb⟩
 rwa [show (ls.drop 1).getD j []=ls.getD (1+j) [] by simp [List.getD,List.getElem?_drop,Nat.add_comm]]
theorem RowsT.push (h:RowsT m0 H v ls) (hm:m0≤H.length) (hw:Fresh m0 H w 2 1 (LI l)) (hv:∀ b,bk w=some b→bk v≠some b) (hs:ls.length<4294967296)
 (k:∀ v' G,Keep m0 H G→Oth v H G→(∀ b,bk v'=some b→H.length≤b)→RowsT m0 G v' (ls++[l])→K v' G) :
 pif w.oneCell' (newK H [w] 27 (fun b1 H2=>apK T0 27 H2 v (.slice (some ⟨b1,0,none⟩) 1 (1+1)) K)) False:=by
 have hw1:w.oneCell'=true:=za2 hw.ints
 refine zay hw1 ?_
 obtain ⟨vs,h1,h2,h4⟩:=h
 refine h1.pushN zrA (by decide) hm (n:=1) (ys:=[w]) rfl (by simpa using hw1) (by simp;omega) (by simp) fun v' G k1 ot nb f'=>k v' G k1 ot nb ?_
 refine ⟨vs++[w],f'.sl,by simp [h2],fun i hi=>?_⟩
 by_cases e:i<ls.length
 ·obtain ⟨w',g1,g2,g3⟩:=h4 i e
  refine ⟨w',by rw [List.getElem?_append_left (by omega)];exact g1,?_,fun b hb he=>?_⟩
  ·rw [show (ls++[l]).getD i []=ls.getD i [] by simp [List.getD,List.getElem?_append_left e]]
   exact zaM g2 fun b o hb ho=>ot b o (g3 b hb) ho
  ·have:=nb b he
   have:=(g2.bk_lt hb).2
   omega
 ·have:i=ls.length:=by simp at hi;omega
  subst this
  refine ⟨w,by rw [← h2];simp,?_,fun b hb he=>?_⟩
  ·rw [show (ls++[l]).getD ls.length []=l by simp [List.getD]]
   exact zaM hw fun b o hb ho=>ot b o (hv b hb) ho
  ·have:=nb b he
   have:=(hw.bk_lt hb).2
   omega
theorem RowsT.row (h:RowsT m0 H v ls) {x:Int} {i:Nat} (hx:x=i) (hi:i<ls.length) {K:Value→Prop} (k:∀ w,Fresh m0 H w 2 1 (LI (ls.getD i []))→(∀ b,bk w=some b→bk v≠some b)→K w):idxK v x 1 (fun b o=>ld1 H b o K):=by
 subst hx
 obtain ⟨vs,h1,h2,h4⟩:=h
 obtain ⟨w,g1,g2,g3⟩:=h4 i hi
 exact zjz h1 (by omega) (by omega) (by rw [Int.toNat_natCast];exact g1) (k w g2 g3)
theorem RowsT.set (h:RowsT m0 H v ls) {x:Int} {i:Nat} (hx:x=i) (hi:i<ls.length) (hw:Fresh m0 H w 2 1 (LI l)) (hv:∀ b,bk w=some b→bk v≠some b) {K:AHeap→Prop}
 (k:∀ b G,bk v=some b→But b H G→RowsT m0 G v (ls.set i l)→K G):idxK v x 1 (fun b o=>pif w.oneCell' (stK H b o [w] K) False):=by
 subst hx
 obtain ⟨vs,h1,h2,h4⟩:=h
 rcases h1 with ⟨rfl,_⟩|⟨b,c,pre,post,hb,rfl,ho,hc⟩
 ·simp at h2;omega
 have hw1:w.oneCell'=true:=za2 hw.ints
 refine ⟨by omega,by omega,zay hw1 ?_⟩
 rw [Int.toNat_natCast,Nat.mul_one]
 have hn:(pre++vs++post).take (pre.length+i)++[w]++(pre++vs++post).drop (pre.length+i+1)=pre++vs.set i w++post:=by
  have hiv:i<vs.length:=by omega
  rw [List.append_assoc pre,List.take_append,List.drop_append,List.take_append,List.drop_append,List.take_of_length_le (by omega),show pre.length+i-pre.length=i by omega,List.drop_eq_nil_of_le (by omega),
   show pre.length+i+1-pre.length=i+1 by omega,show i-vs.length=0 by omega,show i+1-vs.length=0 by omega,List.set_eq_take_append_cons_drop,if_pos hiv]
  simp
 refine zaG (new:=pre++vs.set i w++post) ho (by simp;omega) (by simpa using hw1) (by rw [← hn];rfl) fun G b5 o5=>k b G rfl b5 ⟨vs.set i w,.inr ⟨b,c,pre,post,hb,rfl,o5,by simpa using hc⟩,by simp [h2],fun j hj=>?_⟩
 rw [List.length_set] at hj
 by_cases e:i=j
 ·subst e
  refine ⟨w,by rw [List.getElem?_set_self (by omega)],?_,hv⟩
  rw [show (ls.set i l).getD i []=l by simp [List.getD,List.getElem?_set_self hi]]
  exact zaM hw fun b' o hb' ho'=>by rw [b5.same b' (fun e=>hv b' hb' (by rw [e];rfl))];exact ho'
 ·obtain ⟨w',g1,g2,g3⟩:=h4 j hj
  refine ⟨w',by rw [List.getElem?_set_ne e];exact g1,?_,g3⟩
  rw [show (ls.set i l).getD j []=ls.getD j [] by simp [List.getD,List.getElem?_set_ne e]]
  exact zaM g2 fun b' o hb' ho'=>by rw [b5.same b' (fun e=>g3 b' hb' (by rw [e];rfl))];exact ho'
end Go.Proofs
namespace Go.Proofs
open Go.Abs

variable {H G G' Hb H0 G0:AHeap} {v u f w x5 x12 lv:Value} {l m D F:List Int} {es:List (Int × Int)} {K:Value→AHeap→Prop} {bs m0 x2 x4:Nat} {n x8:Int} {ls fs:List (List Int)}

theorem RowsF.bkA {A:Nat→Prop} {B b:Nat} (h:RowsF A B H v ls) (hb:bk v=some b):A b∧b<B:=by
 obtain ⟨vs,h1,h2,h3,h4⟩:=h
 exact h3 b hb
theorem zpb {r:Nat→Nat} (hg:IsG n es) (h:l∈facL es r):l.length≤2*es.length:=by
 unfold facL at h
 obtain ⟨d,hd,rfl⟩:=List.mem_map.1 h
 have hd:=(za7.1 hd).1
 have hp:=zeK hg r
 have h2:=zi4 (i:=per (nxD es r) d) hp hd fun a b hab hb=>(hp.isPer hd).ne hp hd hab hb
 unfold orbL
 simpa using h2
theorem zoS {c:List Int} (h:l∈covList n es c):l.length≤es.length:=by
 unfold covList at h
 split at h
 ·have key:∀ k,l∈covTo es c k→l.length≤es.length:=by
   intro k
   induction k with
   | zero=>intro h;cases h
   | succ k ih=>
    intro h
    rcases List.mem_append.1 h with h|h
    ·exact ih h
    ·exact ziV h
  exact key 3 h
 ·cases h
theorem zuv {c:List Int}:(covList n es c).length≤3*es.length:=by
 unfold covList
 split
 ·exact zcU 3
 ·simp
theorem zpM (l:List Int):(srtI l).length=l.length:=by unfold srtI;simp
theorem zuG {N13 N17:_} {x0:Value} {x10:Bool} {j:Nat} (hg:IsG n es) (hE:∀ G',Oth x12 G G'→Edges G' v es) (o4:Own G x4 26 [.int .i64 n,v]) (h4:bk x12≠some x4) (hR:RowsT m0 G x12 fs) (hm:m0≤G.length) (hj:j<fs.length) (hl:∀ r∈fs,r.length≤1000)
 (next:∀ (q:Bool) G3,Oth x12 G G3→G.length≤G3.length→RowsT m0 G3 x12 (fs.set j (srtI (fs.getD j [])))→F87.B18 K N13 N17 x0 x2 x4 x5 x8 q x12 (j:Int) G3) :
 F87.B20 K N13 N17 x0 x2 x4 x5 x8 x10 x12 (j:Int) G:=by
 have h30:es.length≤30:=by have:=hg.ed.len;have:=hg.ed.hi;omega
 have hrow:(fs.getD j []).length≤1000:=by rw [zae hj];exact hl _ (List.getElem_mem hj)
 unfold F87.B20
 refine hR.row rfl hj fun w1 f1 _=>zjT f1.ints (by omega) fun v4 H5 l5 f5=>?_
 have hbx:∀ b,bk x12=some b→b<G.length:=fun b hb=>by
  obtain ⟨vs,h1,_⟩:=hR
  exact (h1.lt hb).2
 refine (hR.le l5).set rfl hj (f5.less hm) (fun b hb e=>by have:=hbx b e;have:=(f5.bk_lt hb).1;omega) fun b G2 hb b2 hR2=>?_
 have oth2:Oth x12 G G2:=fun c o hc ho=>by rw [b2.same c (fun e=>hc (by rw [e];exact hb))];exact l5.2 c o ho
 have len2:G.length≤G2.length:=by rw [b2.len];exact l5.1
 have hset:(fs.set j (srtI (fs.getD j []))).getD j []=srtI (fs.getD j []):=by simp [List.getD,List.getElem?_set_self hj]
 have hj2:j<(fs.set j (srtI (fs.getD j []))).length:=by rw [List.length_set];exact hj
 have o42:Own G2 x4 26 [.int .i64 n,v]:=oth2 x4 _ h4 o4
 have sl:=zpM (fs.getD j [])
 unfold F87.B19
 refine zaa (fun _=>?_) fun _=>next false G2 oth2 len2 hR2
 refine hR2.row rfl hj2 fun w2 f2 _=>zab o42 rfl ((hE G2 oth2).len ?_)
 rw [hset] at f2
 refine zgq f2.ints (by omega) (by omega) (by omega) (zag ?_)
 by_cases hs:IsS (srtI (fs.getD j [])) (es.length:Int)
 ·rw [if_pos hs]
  refine zay rfl (zac o42 rfl (zab o42 rfl (hR2.row rfl hj2 fun w3 f3 _=>?_)))
  rw [hset] at f3
  refine zjs (hE G2 oth2) hg f3.ints hs fun G3 l3=>zai ?_
  exact next _ G3 (fun c o hc ho=>l3.2 c o (oth2 c o hc ho)) (by have:=l3.1;omega) (hR2.le l3)
 ·rw [if_neg hs]
  exact zaz rfl (next false G2 oth2 len2 hR2)
def CovK (Hb H:AHeap) (bs:Nat) (K:Value→AHeap→Prop):Prop:=∀ v n es lv ls G,Kb bs H G→Src Hb bs G→Fresh H.length G v 66 2 (LE es)→IsG n es→RowsT H.length G lv ls→ls.length≤200→(∀ r∈ls,r.length≤3000)→K (.tuple ⟨[.agg ⟨[.int .i64 n,v]⟩,lv]⟩) G
theorem zq8 (k:CovK Hb H bs K) (hbs:bs<H.length) (ob:Own G0 H.length 26 [.int .i64 0,.slice none 0 0]) (k0:Kb bs H G0) (fv:Fresh (H.length+1) G0 v 66 2 (LE es)) (hg:IsG n es)
 (kG:Kb bs G0 G) (s:Src Hb bs G) (o4:Own G x4 26 [.int .i64 n,v]) (hR:RowsT G0.length G lv ls) (h1:ls.length≤200) (h2:∀ r∈ls,r.length≤3000):F87.B1 K H.length x4 lv G:=by
 have hlt:=ob.lt
 unfold F87.B1
 refine zac o4 rfl (zab o4 rfl ?_)
 have fG:=zaC fv kG (by omega)
 refine zcB (K:=fun v G=>K (.tuple ⟨[v,lv]⟩) G) s (k0.trans kG) hbs (Nat.le_refl _) (kG.own ob (by omega)) (zaw fG) fun G' b' kb' s'=>?_
 exact k v n es lv ls G' kb' s' ((fG.but b' (by omega)).less (by omega)) hg ((hR.but b' (by omega)).less (by omega)) h1 h2
theorem zq9 (k:CovK Hb H bs K) (hbs:bs<H.length) (ob:Own G0 H.length 26 [.int .i64 0,.slice none 0 0]) (k0:Kb bs H G0) (fv:Fresh (H.length+1) G0 v 66 2 (LE es)) (hg:IsG n es) (hgd:Gd2 n es)
 (kG:Kb bs G0 G) (s:Src Hb bs G) (o4:Own G x4 26 [.int .i64 n,v]) (hx4:bs≠x4) (hR:RowsT G0.length G lv ls) (hb4:bk lv≠some x4) (h1:ls.length≤199) (h2:∀ r∈ls,r.length≤3000) :
 F87.B9 K (.pointer (some ⟨bs,0,none⟩)) H.length x4 lv G:=by
 have h30:es.length≤30:=by have:=hg.ed.len;have:=hg.ed.hi;omega
 have hlt:=ob.lt
 have fin:∀ G lv ls,Kb bs G0 G→Src Hb bs G→Own G x4 26 [.int .i64 n,v]→RowsT G0.length G lv ls→ls.length≤200→(∀ r∈ls,r.length≤3000)→F87.B1 K H.length x4 lv G:=fun G lv ls kG s o4 hR h1 h2=>zq8 k hbs ob k0 fv hg kG s o4 hR h1 h2
 unfold F87.B9
 refine zav s fun r G1 k1 s1 r0 r1 _=>zag ?_
 have kG1:=kG.trans k1
 have o41:=k1.own o4 (Ne.symm hx4)
 have hR1:=hR.kb k1 (by omega)
 have fv1:Sl (bs+1) G1 v 66 2 (LE es):=(zaC fv kG1 (by omega)).sl.less (by omega)
 have hk0:=k0.len;have hkG1:=kG1.len
 have put:∀ G2 w l,Kb bs G1 G2→Src Hb bs G2→Fresh G1.length G2 w 2 1 (LI l)→l.length≤3000→pif w.oneCell' (newK G2 [w] 27 (fun b6 H7=>apK T0 27 H7 lv (.slice (some ⟨b6,0,none⟩) 1 (1+1)) (fun v8 H9=>F87.B1 K H.length x4 v8 H9))) False:=by
  intro G2 w l k2 s2 fw hl
  have hk2:=k2.len
  refine (hR1.kb k2 (by omega)).push (by omega) (fw.less (by omega)) (fun b hb e=>?_) (by omega) fun v8 G3 k3 ot nb hR3=>?_
  ·have h3:=(fw.bk_lt hb).1
   obtain ⟨vs,q1,_⟩:=hR1
   have:=(q1.lt e).2
   omega
  ·refine fin G3 v8 (ls++[l]) ((kG1.trans k2).keep k3) (s2.keep k3 (by omega)) (ot _ _ hb4 (k2.own o41 (Ne.symm hx4))) hR3 (by simp;omega) fun r hr=>?_
   rcases List.mem_append.1 hr with hr|hr
   ·exact h2 r hr
   ·rw [List.mem_singleton.1 hr];exact hl
 unfold F87.B8
 refine zaa (fun _=>?_) fun _=>?_
 ·unfold F87.B3
  refine hR1.len (zaa (fun hb=>?_) fun _=>fin G1 lv ls kG1 s1 o41 hR1 (by omega) h2)
  unfold F87.B2
  refine hR1.tail (by have:=of_decide_eq_true hb;omega) fun v' h'=>?_
  exact fin G1 v' (ls.drop 1) kG1 s1 o41 h' (by rw [List.length_drop];omega) fun r hr=>h2 r (List.mem_of_mem_drop hr)
 unfold F87.B7
 refine zaa (fun _=>?_) fun _=>?_
 ·unfold F87.B4
  refine zac o41 rfl (zab o41 rfl (zcj s1 fv1 hgd fun w lw G2 k2 s2 fw hS=>?_))
  exact put G2 w lw k2 s2 fw (by have:=hS.short;omega)
 unfold F87.B6
 refine zaa (fun _=>?_) fun _=>fin G1 lv ls kG1 s1 o41 hR1 (by omega) h2
 unfold F87.B5
 refine zab o41 rfl ((zbg fv1).len (zca s1 ⟨by omega,by omega⟩ fun w lw G2 k2 s2 fw hlw=>?_))
 exact put G2 w lw k2 s2 fw (by omega)
theorem ze6 (hs:Src Hb bs H) (k:CovK Hb H bs K):AC Tryz.prog T0 87 [.pointer (some ⟨bs,0,none⟩)] H K:=by
 have hbs:=hs.lt
 apply F87.ac
 unfold F87.B34
 refine zaf rfl fun H1 l1 n1 o1=>?_
 unfold F87.B33
 refine zev (hs.le l1) fun v n es G1 k1 s1 f1 gd hg=>zax (zag (zaf rfl fun G2 l2 n2 o2=>zaf rfl fun G3 l3 n3 o3=>zaG (new:=[.int .i64 n,v]) o3 (by simp) (zaT (zaw f1)) rfl fun G4 b4 o4=>?_))
 have h30:es.length≤30:=by have:=hg.ed.len;have:=hg.ed.hi;omega
 have n0:=hg.ed.lo;have n20:=hg.ed.hi
 have hlt:=o1.lt
 have hk1:=k1.len
 have ob:Own G1 H.length 26 [.int .i64 0,.slice none 0 0]:=k1.own o1 (by omega)
 have k0:Kb bs H G1:=(Kb.of_le l1).trans k1
 have hgd:Gd2 n es:=gd.two n0 (by omega)
 have l14:G1.le G4:=b4.le (AHeap.le_trans l2 l3) l2.1
 have k14:Kb bs G1 G4:=.of_le l14
 have s4:=s1.le l14
 have fv1:Fresh (H.length+1) G1 v 66 2 (LE es):=f1.less (by omega)
 have hl2:=l2.1
 have hG2:=o2.lt
 have hR0:RowsT G1.length G4 (.slice (some ⟨G1.length,0,none⟩) 0 (0+1)) []:=⟨[],.inr ⟨G1.length,0,[],[],Nat.le_refl _,rfl,b4.own (o2.le l3) (by omega),rfl⟩,rfl,fun i hi=>absurd hi (by simp)⟩
 have hb0:bk (.slice (some ⟨G1.length,0,none⟩) 0 (0+1))≠some G2.length:=fun e=>absurd (Option.some.inj e:G1.length=G2.length) (by omega)
 have hx4:bs≠G2.length:=by omega
 have fin9:∀ G lv ls,Kb bs G1 G→Src Hb bs G→Own G G2.length 26 [.int .i64 n,v]→RowsT G1.length G lv ls→bk lv≠some G2.length→ls.length≤199→(∀ r∈ls,r.length≤3000)→F87.B9 K (.pointer (some ⟨bs,0,none⟩)) H.length G2.length lv G:=
  fun G lv ls kG s o4 hR hb4 h1 h2=>zq9 k hbs ob k0 fv1 hg hgd kG s o4 hx4 hR hb4 h1 h2
 have edg:∀ {G},Kb bs G1 G→Edges G v es:=fun kG=>(zaC fv1 kG (by omega)).edges
 unfold F87.B32
 refine zav s4 fun r G5 k5 s5 _ _ _=>zag (zaa (fun _=>?_) fun _=>?_)
 ·have k15:=k14.trans k5
  have o45:=k5.own o4 (Ne.symm hx4)
  have hR5:=hR0.kb k5 (by omega)
  unfold F87.B12
  refine zac o45 rfl (zab o45 rfl (zgy (edg k15) hg fun b q G6 c l6 hb oc hc qc=>zaB (zai ?_)))
  have k16:=k15.trans (.of_le l6)
  have o46:=o45.le l6
  unfold F87.B11
  refine zaa (fun _=>?_) fun _=>fin9 G6 _ [] k16 (s5.le l6) o46 (hR5.le l6) hb0 (by simp) (by simp)
  unfold F87.B10
  have hci:Ints G6 (slV b es.length) c:=by rw [← hc];exact zau oc
  refine zac o46 rfl (zab o46 rfl (zhB (edg k16) (by omega) hci (by omega) fun lv G7 l7 hF=>zaB (zag ?_)))
  have k17:=k16.trans (.of_le l7)
  have hk16:=k16.len
  have hl:=zuv (n:=n) (es:=es) (c:=c)
  have h46:=o46.lt
  exact fin9 G7 lv _ k17 ((s5.le l6).le l7) (o46.le l7) (hF.toT fun b hb=>by omega) (fun e=>by have:=(hF.bkA e).1;omega) (by omega) fun r hr=>by have:=zoS hr;omega
 ·unfold F87.B31 F87.L13
  refine ⟨fun x0 x2 x4 x5 x8 G=>.pointer (some ⟨bs,0,none⟩)=x0∧H.length=x2∧G2.length=x4∧Kb bs G1 G∧Src Hb bs G∧Own G G2.length 26 [.int .i64 n,v]∧∃ (i:Nat) (ls:List (List Int)),x8=i∧i≤30∧RowsT G1.length G x5 ls∧bk x5≠some G2.length∧ls.length≤60∧∀ r∈ls,r.length≤60,fun _ _ _ _ x8 _=>30-x8.toNat,
   ⟨rfl,rfl,rfl,k14.trans k5,s5,k5.own o4 (Ne.symm hx4),0,[],rfl,by omega,hR0.kb k5 (by omega),hb0,by simp,by simp⟩,?_⟩
  rintro x0 x2 x4 x5 x8 G ⟨rfl,rfl,rfl,kG,sG,oG,i,ls,rfl,hi,hR,hb5,hlen,hrow⟩
  have done:F87.B9 K (.pointer (some ⟨bs,0,none⟩)) H.length G2.length x5 G:=fin9 G x5 ls kG sG oG hR hb5 (by omega) fun r hr=>by have:=hrow r hr;omega
  unfold F87.B30
  refine zaa (fun hb=>hR.len (zaa (fun _=>?_) fun _=>done)) fun _=>done
  have hi30:i<30:=by have:=of_decide_eq_true hb;omega
  have hGl:=oG.lt
  have hkG:=kG.len
  unfold F87.B29
  refine zaf rfl fun G6 l6 n6 o6=>?_
  unfold F87.B28 F87.L24
  refine ⟨fun x0 x2 x4 y5 x8 x9 x10 x11 G'=>.pointer (some ⟨bs,0,none⟩)=x0∧H.length=x2∧G2.length=x4∧x5=y5∧(i:Int)=x8∧true=x10∧Kb bs G G'∧Src Hb bs G'∧∃ (t:Nat) (R:List Int),x11=t∧(t:Int)≤n∧R.length=t∧(∀ x∈R,0≤x∧x≤1)∧Fresh G.length G' x9 2 1 (LI R),fun _ _ _ _ _ _ _ x11 _=>(n-x11).toNat,
   ⟨rfl,rfl,rfl,rfl,rfl,rfl,.of_le l6,sG.le l6,0,[],rfl,by omega,rfl,by simp,.inr ⟨_,0,Nat.le_refl _,rfl,o6,rfl⟩⟩,?_⟩
  rintro x0 x2 x4 y5 x8 x9 x10 x11 G7 ⟨rfl,rfl,rfl,rfl,rfl,rfl,k7,s7,t,R,rfl,ht,hRl,hRr,f9⟩
  have o7:=k7.own oG (Ne.symm hx4)
  unfold F87.B27
  refine zac o7 rfl (zaa (fun hb=>?_) fun hb=>?_)
  ·have htn:(t:Int)<n:=of_decide_eq_true hb
   unfold F87.B26
   refine zav s7 fun r G8 k8 s8 r0 r1 _=>zag ?_
   have hr:=r1 (by decide)
   have hk7:=k7.len;have hk8:=k8.len
   have f98:=zaC f9 k8 (by omega)
   refine f98.sl.pushN zbl (by decide) (by omega) (n:=1) (ys:=[.int .i64 r]) rfl rfl (by simp;omega) (by simp) fun v10 G10 k10 _ _ f10=>?_
   unfold F87.B25
   rw [zad (by omega) (by omega)]
   refine ⟨⟨rfl,rfl,rfl,rfl,rfl,rfl,(k7.trans k8).keep k10,s8.keep k10 (by omega),t+1,R++[r],by omega,by omega,by simp [hRl],fun x hx=>?_,by simpa using f10⟩,by show (n-((t:Int)+1)).toNat<(n-(t:Int)).toNat;omega⟩
   rcases List.mem_append.1 hx with hx|hx
   ·exact hRr x hx
   ·rw [List.mem_singleton.1 hx];omega
  ·have htn:(t:Int)=n:=by have:=of_decide_eq_false hb;omega
   have hRot:RotP n R:=⟨by omega,hRr⟩
   unfold F87.B23
   have k17:=kG.trans k7
   refine zac o7 rfl (zab o7 rfl (zfO (edg k17) hg f9.ints hRot fun lv G8 l8 hF=>?_))
   have hk7:=k7.len;have hl8:=l8.1
   have hfl:=znr (es:=es) (r:=rF R)
   have hT:RowsT G7.length G8 lv (facL es (rF R)):=hF.toT fun b hb=>hb
   have hbl:∀ b,bk lv=some b→G7.length≤b:=fun b hb=>(hF.bkA hb).1
   unfold F87.B22 F87.L17
   refine ⟨fun x0 x2 x4 y5 x8 x10 x12 x13 G'=>.pointer (some ⟨bs,0,none⟩)=x0∧H.length=x2∧G2.length=x4∧x5=y5∧(i:Int)=x8∧lv=x12∧Kb bs G7 G'∧Src Hb bs G'∧∃ (j:Nat) (fs:List (List Int)),x13=j∧j≤fs.length∧RowsT G7.length G' lv fs∧fs.length=(facL es (rF R)).length∧∀ r∈fs,r.length≤60,fun _ _ _ _ _ _ _ x13 _=>60-x13.toNat,
    ⟨rfl,rfl,rfl,rfl,rfl,rfl,.of_le l8,s7.le l8,0,_,rfl,by omega,hT,rfl,fun r hr=>by have:=zpb hg hr;omega⟩,?_⟩
   rintro x0 x2 x4 y5 x8 x10 x12 x13 G9 ⟨rfl,rfl,rfl,rfl,rfl,rfl,k9,s9,j,fs,rfl,hj,hT9,hfs,hfr⟩
   have o9:=k9.own o7 (Ne.symm hx4)
   have hk9:=k9.len
   have h7:=o7.lt
   have othK:∀ G',G9.length≤G'.length→Oth lv G9 G'→Kb bs G7 G':=fun G' hl ot=>⟨by omega,fun q o hq ho=>by
    have:=zaj ho
    exact ot q o (fun e=>by have:=hbl q e;omega) (k9.old q o hq ho)⟩
   have h4:bk lv≠some G2.length:=fun e=>by have:=hbl _ e;omega
   unfold F87.B21
   refine hT9.len (zaa (fun hb=>?_) fun hb=>?_)
   ·have hjl:j<fs.length:=by have:=of_decide_eq_true hb;omega
    refine zuG (m0:=G7.length) hg (fun G' ot=>?_) o9 h4 hT9 hk9 hjl (fun r hr=>by have:=hfr r hr;omega) fun q G10 ot10 hl10 hT10=>?_
    ·refine (zaM (G:=G') (zaC fv1 (k17.trans k9) (by omega)) fun b o hb ho=>ot b o (fun e=>?_) ho).edges
     have h1:=hbl b e
     have h2:=(fv1.bk_lt hb).2
     have:=kG.len
     omega
    ·unfold F87.B18
     rw [zad (by omega) (by omega)]
     refine ⟨⟨rfl,rfl,rfl,rfl,rfl,rfl,othK G10 hl10 ot10,?_,j+1,_,by omega,by rw [List.length_set];omega,hT10,by rw [List.length_set];exact hfs,fun r hr=>?_⟩,by show 60-((j:Int)+1).toNat<60-(j:Int).toNat;omega⟩
     ·obtain ⟨q1,q2,cv,l,a,x,q3,q4,q5,q6,q7⟩:=s9
      have hlt':=q1.1
      have hsl:=hs.lt
      exact ⟨⟨by omega,fun q o ho=>ot10 q o (fun e=>by have:=hbl q e;have:=zaj ho;have:=k17.len;have:=k0.len;omega) (q1.2 q o ho)⟩,q2,cv,l,a,x,q3,q4,ot10 _ _ (fun e=>by have:=hbl _ e;have:=k17.len;have:=k0.len;omega) q5,q6,q7⟩
     ·rcases List.mem_or_eq_of_mem_set hr with hr|rfl
      ·exact hfr r hr
      ·rw [zpM,zae hjl];exact hfr _ (List.getElem_mem hjl)
   ·have k19:=k17.trans k9
    unfold F87.B16
    refine zaa (fun _=>?_) fun _=>?_
    ·unfold F87.B15 F87.B14
     rw [zad (by omega) (by omega)]
     exact ⟨⟨rfl,rfl,rfl,k19,s9,o9,i+1,fs,by omega,by omega,hT9.less (by have:=k17.len;omega),h4,by omega,hfr⟩,by show 30-((i:Int)+1).toNat<30-(i:Int).toNat;omega⟩
    ·unfold F87.B14
     rw [zad (by omega) (by omega)]
     exact ⟨⟨rfl,rfl,rfl,k19,s9,o9,i+1,ls,by omega,by omega,(hR.kb k7 (by omega)).kb k9 (by omega),hb5,hlen,hrow⟩,by show 30-((i:Int)+1).toNat<30-(i:Int).toNat;omega⟩
end Go.Proofs
namespace Go.Proofs
open Go.Abs

variable {H G:AHeap} {v u f:Value} {l m c D:List Int} {es fs:List (Int × Int)} {K:Value→AHeap→Prop} {p:Nat→Bool} {e:Nat} {n:Int}

noncomputable def dirsOf (es:List (Int × Int)) (l:List Int):List (Nat × Bool):=dirL es (bitB l) (l.getD 0 0).toNat (compL es (bitB l) (l.getD 0 0).toNat).length
noncomputable def fwB (es:List (Int × Int)) (l:List Int) (j:Nat):Bool:=@decide ((j,false)∈dirsOf es l) (Classical.propDecidable _)
theorem zsb {j:Nat}:fwB es l j=true↔(j,false)∈dirsOf es l:=by unfold fwB;simp
theorem zkG {T:Nat} {d:Nat × Bool}:d∈dirL es p e T↔∃ t,t<T∧dirT es p e t=d:=by
 unfold dirL;simp [List.mem_map,List.mem_range]
theorem zh4 (hg:IsG n es) (h2:Deg2 n es p) (he:e<es.length) (hpe:p e=true) {s t:Nat} (hs:s<(compL es p e).length) (ht:t<(compL es p e).length) (h:(wk es p e s).1=(wk es p e t).1):s=t:=by
 rcases Nat.lt_trichotomy s t with hlt|rfl|hlt
 ·exact absurd (by rw [← h];unfold wkL;exact List.mem_map.2 ⟨s,List.mem_range.2 hlt,rfl⟩) (zpO hg h2 he hpe ht)
 ·rfl
 ·exact absurd (by rw [h];unfold wkL;exact List.mem_map.2 ⟨t,List.mem_range.2 hlt,rfl⟩) (zpO hg h2 he hpe hs)
theorem zAa (hg:IsG n es) (h2:Deg2 n es p) (he:e<es.length) (hpe:p e=true) {t:Nat} (ht:t<(compL es p e).length):((wk es p e t).1,false)∈dirL es p e (compL es p e).length↔(dirT es p e t).2=false:=by
 rw [zkG]
 constructor
 ·rintro ⟨s,h1,h3⟩
  have e1:(wk es p e s).1=(wk es p e t).1:=by rw [← zdD,h3]
  rw [← zh4 hg h2 he hpe h1 ht e1,h3]
 ·intro h
  refine ⟨t,ht,?_⟩
  rw [← h,← zdD]
theorem zvr (hg:IsG n es) (h2:Deg2 n es p) (he:e<es.length) (hpe:p e=true) {j:Nat} (hj:Rch (eAdj es p) e j):∃ t,t<(compL es p e).length∧(wk es p e t).1=j:=by
 have:=(zkV hg h2 he hpe j).2 hj
 unfold wkL at this
 obtain ⟨t,h1,h3⟩:=List.mem_map.1 this
 exact ⟨t,List.mem_range.1 h1,by omega⟩
theorem zmv {S:List Bool} {i j:Nat} {b:Bool} (h:i<S.length):(S.set i b).getD j false=if i=j then b else S.getD j false:=by
 by_cases e:i=j
 ·subst e;simp [List.getD,h]
 ·simp [List.getD,List.getElem?_set,e]
theorem or2 {b:Nat} {t:TypeId} {a c x:Int} {X Y:Prop} (o:Own H b t [.int .i64 a,.int .i64 c]) (hx:(a=x∨c=x)→X) (hy:¬ (a=x∨c=x)→Y):ldI .i64 H b 0 (fun v1=>pif (v1==x) X (ldI .i64 H b 1 fun v2=>pif (v2==x) X Y)):=by
 refine zac o rfl (zaa (fun h=>hx (.inl (beq_iff_eq.1 h))) fun h=>zac o rfl (zaa (fun h2=>hx (.inr (beq_iff_eq.1 h2))) fun h2=>hy ?_))
 rintro (h3|h3)
 ·exact beq_eq_false_iff_ne.1 h h3
 ·exact beq_eq_false_iff_ne.1 h2 h3
noncomputable def posW (es:List (Int × Int)) (p:Nat→Bool) (e T:Nat) (j:Int):Nat:=@dite Nat (∃ t,t<T∧((wk es p e t).1:Int)=j) (Classical.propDecidable _) (fun h=>Classical.choose h) fun _=>0
theorem zuX (hg:IsG n es) (h2:Deg2 n es p) (he:e<es.length) (hpe:p e=true) {T t:Nat} (hT:T=(compL es p e).length) (ht:t<T):posW es p e T ((wk es p e t).1:Int)=t:=by
 have hex:∃ s,s<T∧((wk es p e s).1:Int)=((wk es p e t).1:Int):=⟨t,ht,rfl⟩
 unfold posW
 rw [dif_pos hex]
 obtain ⟨g1,g2⟩:=Classical.choose_spec hex
 exact zh4 hg h2 he hpe (by omega) (by omega) (by omega)
theorem zqQ (h:Edges H v es) (hg:IsG n es) (hu:Ints H u l) (hs:IsS l es.length) (hE:EvenS n es (bitB l)) (h1:(cycOf es (bitB l) l).length=1)
 (k:∀ w F G,H.le G→Fresh H.length G w 4 1 (LB F)→F.length=l.length→(∀ i,i<l.length→F.getD i false=fwB es l (l.getD i 0).toNat)→K w G):AC Tryz.prog T0 94 [.agg ⟨[.int .i64 n,v]⟩,u] H K:=by
 have n0:=hg.ed.lo;have n1:=hg.ed.hi
 have h30:es.length≤30:=by have:=hg.ed.len;omega
 obtain ⟨e,⟨r,hlr⟩,he,hpe,hiff,hlow⟩:=zh2 hs h1
 have hlc:=zuN hs hiff
 have h2:=zjk hg hE
 obtain ⟨p,hp⟩:∃ p,p=bitB l:=⟨_,rfl⟩
 obtain ⟨T,hT⟩:∃ T,T=(compL es p e).length:=⟨_,rfl⟩
 have hl0:l.getD 0 0=(e:Int):=by rw [hlr];rfl
 have hlp:0<l.length:=by rw [hlr];simp
 have hfw:∀ j,fwB es l j=true↔(j,false)∈dirL es p e T:=fun j=>by
  rw [zsb];unfold dirsOf;rw [hl0,Int.toNat_natCast,← hp,← hT]
 have hnd:=zdl hs.asc
 have hlT:l.length=T:=by rw [hT,hp,← hlc]
 have hl30:=hs.short2
 rw [← hp] at h2 hpe hiff hlow
 have hmem:∀ i,i<l.length→∃ j:Nat,l.getD i 0=j∧j<es.length∧p j=true:=fun i hi=>by
  have hm:=List.getElem_mem hi
  have hr:=hs.range _ hm
  rw [zae hi]
  exact ⟨l[i].toNat,by omega,by omega,by rw [hp];exact (zaD hs _).2 (by rw [show ((l[i].toNat:Nat):Int)=l[i] by omega];exact hm)⟩
 have hidx:∀ j:Nat,p j=true→∃ i,i<l.length∧l.getD i 0=(j:Int):=fun j hj=>by
  obtain ⟨i,hi,hx⟩:=List.getElem_of_mem ((zaD hs j).1 (by rw [← hp];exact hj))
  exact ⟨i,hi,by rw [zae hi];exact hx⟩
 have hinj:∀ i j,i<l.length→j<l.length→l.getD i 0=l.getD j 0→i=j:=fun i j hi hj hh=>by
  rw [zae hi,zae hj] at hh
  exact (List.getElem_inj hnd).1 hh
 apply F94.ac
 unfold F94.B16
 refine zaf (zak (zah h)) fun H1 l1 _ o1=>?_
 unfold F94.B15
 refine (hu.le l1).len (zaF (by omega) (by omega) (by decide) fun H2 l2 n2 o2=>?_)
 rw [zfU,Int.toNat_natCast] at o2
 rw [Int.toNat_natCast]
 unfold F94.B14
 obtain ⟨bo,hbo⟩:∃ bo,bo=H1.length:=⟨_,rfl⟩
 rw [← hbo] at o2 ⊢
 refine zan (by omega) (by omega) (zaO o2 (by simp;omega) rfl fun H3 b3 o3=>?_)
 have o3:Own H3 bo 4 (LB ((List.replicate l.length false).set 0 true)):=by simpa using o3
 have l13:H1.le H3:=b3.le l2 (by omega)
 have l3:=AHeap.le_trans l1 l13
 have o13:=o1.le l13
 unfold F94.B13
 obtain ⟨bb,oo,hk',c1,c2⟩:=(h.le l3).idx (show (0:Int)≤e by omega) (by omega)
 simp only [Int.toNat_natCast] at c1 c2
 refine zab o13 rfl ((hu.le l3).rd (by decide) (by simpa using hlp) ?_)
 rw [show (0:Int).toNat=0 from rfl,hl0]
 refine hk' _ (zap c2 ?_)
 obtain ⟨d1,d2,d3,d4,d5⟩:=hg.ed.ends es[e] (List.getElem_mem he)
 rw [← zae (d:=(0,0)) he] at d1 d2 d3 d4 d5
 have hTp:0<T:=by omega
 have T1:T=1→False:=fun hT1=>by
  have hb:=zoR hg h2 he hpe
  rw [← hT,hT1] at hb
  have hW0:=zbA hg h2 he hpe 0 (by omega)
  obtain ⟨q,q1,q2,q3,q4⟩:=zbO (now:=(wk es p e 0).1) (h2 _ hW0.vn (za3 hW0.lt hW0.pn hW0.onv)) hW0.lt
  have:=zgI (h2 _ hW0.vn (za3 hW0.lt hW0.pn hW0.onv)) hW0.lt hW0.pn hW0.onv q1 q2 q3 q4
  rw [wk,this] at hb
  exact q3 hb
 unfold F94.L1
 refine ⟨fun x1 x2 x5 x6 x7 G=>u=x1∧H.length=x2∧.slice (some ⟨bo,0,none⟩) l.length (l.length+1)=x5∧H1.le G∧∃ (t now:Nat) (F:List Bool),t<T∧x7=now∧now<l.length∧l.getD now 0=((wk es p e t).1:Int)∧x6=((wk es p e t).2:Int)∧F.length=l.length∧Own G bo 4 (LB F)∧
  ∀ i,i<l.length→(F.getD i false=true↔∃ s,s≤t∧(dirT es p e s).2=false∧l.getD i 0=((wk es p e s).1:Int)),
  fun _ _ _ _ x7 _=>T-posW es p e T (l.getD x7.toNat 0),?_,?_⟩
 ·refine ⟨rfl,rfl,rfl,l13,0,0,_,hTp,rfl,hlp,hl0,?_,by simp,o3,fun i hi=>?_⟩
  ·show (es.getD e (0,0)).2=(((es.getD e (0,0)).2.toNat:Nat):Int)
   omega
  ·rw [zmv (by simpa using hlp)]
   have h0:(List.replicate l.length false).getD i false=false:=by simp only [List.getD,List.getElem?_replicate];split <;> rfl
   rw [h0]
   constructor
   ·intro hh
    have hi0:0=i:=by
     apply Classical.byContradiction
     intro hne;rw [if_neg hne] at hh;cases hh
    subst hi0
    exact ⟨0,Nat.le_refl _,rfl,hl0⟩
   ·rintro ⟨s,hs0,_,hls⟩
    obtain rfl:s=0:=by omega
    have:0=i:=hinj 0 i hlp hi (by rw [hl0,hls];rfl)
    rw [if_pos this]
 rintro x1 x2 x5 x6 x7 G ⟨rfl,rfl,rfl,lG,t,now,F,ht,rfl,hnow,hln,rfl,hF,oF,hFi⟩
 have hW:=zbA hg h2 he hpe t (by omega)
 obtain ⟨q,q1,q2,q3,q4⟩:=zbO (now:=(wk es p e t).1) (h2 _ hW.vn (za3 hW.lt hW.pn hW.onv)) hW.lt
 unfold F94.B12 F94.L2
 refine ⟨fun x1 x2 x5 x6 x7 x8 G'=>u=x1∧H.length=x2∧.slice (some ⟨bo,0,none⟩) l.length (l.length+1)=x5∧((wk es p e t).2:Int)=x6∧(now:Int)=x7∧G.le G'∧∃ k:Nat,x8=k∧k≤l.length∧∀ i,i<k→i≠now→on (es.getD (l.getD i 0).toNat (0,0)) ((wk es p e t).2:Nat)=false,
  fun _ _ _ _ _ x8 _=>l.length-x8.toNat,⟨rfl,rfl,rfl,rfl,rfl,AHeap.le_refl _,0,rfl,by omega,fun i hi=>absurd hi (by omega)⟩,?_⟩
 rintro x1 x2 x5 x6 x7 x8 G1 ⟨rfl,rfl,rfl,rfl,rfl,lG1,k',rfl,hk'l,hnone⟩
 have l1G:=AHeap.le_trans lG lG1
 have l0G:=AHeap.le_trans l1 l1G
 have oG:=o1.le l1G
 unfold F94.B11
 refine (hu.le l0G).len (zaa (fun hb=>?_) fun hb=>?_)
 ·have hkl:k'<l.length:=by have:=of_decide_eq_true hb;omega
  obtain ⟨j,hj,hjl,hpj⟩:=hmem k' hkl
  obtain ⟨f1,f2,f3,f4,f5⟩:=hg.ed.ends es[j] (List.getElem_mem hjl)
  rw [← zae (d:=(0,0)) hjl] at f1 f2 f3 f4 f5
  have hvn:=hW.vn
  unfold F94.B10
  obtain ⟨bb,oo,hk2,c1,c2⟩:=(h.le l0G).idx (show (0:Int)≤j by omega) (by omega)
  simp only [Int.toNat_natCast] at c1 c2
  refine zab oG rfl ((hu.le l0G).rd (by omega) (by omega) ?_)
  rw [Int.toNat_natCast,hj]
  refine hk2 _ (zap c1 (zap c2 (zaf rfl fun G2 l2' n2' o2'=>zaG o2' (by simp) (by simp [Value.oneCell']) rfl fun G3 b3' o3'=>?_)))
  have l13':G1.le G3:=b3'.le l2' (Nat.le_refl _)
  have o9:Own G3 G1.length 66 [.int .i64 (es.getD j (0,0)).1,.int .i64 (es.getD j (0,0)).2]:=by simpa using o3'
  have hlt9:=zaj o9
  have hbG:bo<G1.length:=by have:=zaj (oF.le lG1);omega
  have lG3:=AHeap.le_trans lG1 l13'
  have oF3:=oF.le lG3
  unfold F94.B9
  refine zaa (fun hkn=>?_) fun hkn=>?_
  ·have hkn:k'≠now:=by have:=bne_iff_ne.1 hkn;omega
   refine or2 o9 (fun hon=>?_) fun hon=>?_
   ·have hon:on (es.getD j (0,0)) ((wk es p e t).2:Nat)=true:=by unfold on;simpa using hon
    have hjne:j≠(wk es p e t).1:=fun hh=>hkn (hinj _ _ hkl hnow (by rw [hj,hln,hh]))
    have hnx:=zgI (h2 _ hW.vn (za3 hW.lt hW.pn hW.onv)) hW.lt hW.pn hW.onv hjl hpj hjne hon
    have e1:(wk es p e (t+1)).1=j:=by rw [wk];exact hnx
    have e2:(wk es p e (t+1)).2=othN es (j:Int) (wk es p e t).2:=by rw [wk,hnx]
    unfold F94.B8
    refine zaa (fun h0=>?_) fun h0=>?_
    ·have hk0:k'=0:=by have:=beq_iff_eq.1 h0;omega
     subst hk0
     have hje:j=e:=by rw [hl0] at hj;omega
     have hTt:T=t+1:=by
      rcases Nat.lt_or_ge (t+1) T with hlt|hge
      ·have:=zh4 hg h2 he hpe (s:=t+1) (t:=0) (by omega) (by omega) (by rw [e1,hje];rfl)
       omega
      ·omega
     unfold F94.B7
     have hl1:=l1.1
     refine k _ F G3 (AHeap.le_trans l0G l13') (.inr ⟨bo,l.length,by omega,rfl,oF3,by simp [hF]⟩) hF fun i hi=>?_
     rw [Bool.eq_iff_iff,hFi i hi,hfw,zkG]
     obtain ⟨ji,hji,_,_⟩:=hmem i hi
     rw [hji,Int.toNat_natCast]
     constructor
     ·rintro ⟨s,s1,s2,s3⟩
      exact ⟨s,by omega,Prod.ext (by rw [zdD];show _=ji;omega) s2⟩
     ·rintro ⟨s,s1,s2⟩
      refine ⟨s,by omega,by rw [s2],?_⟩
      have:=congrArg Prod.fst s2
      rw [zdD] at this
      rw [this]
    ·have hk0:k'≠0:=by have:=beq_eq_false_iff_ne.1 h0;omega
     have hTt:t+1<T:=by
      rcases Nat.lt_or_ge (t+1) T with hlt|hge
      ·exact hlt
      ·exfalso
       have hb:=zoR hg h2 he hpe
       rw [← hT,show T=t+1 by omega,e1] at hb
       exact hk0 (hinj _ _ hkl hlp (by rw [hj,hl0,hb]))
     unfold F94.B6
     refine zac o9 rfl (zan (by omega) (by omega) (zaO oF3 (by simp;omega) rfl fun G4 b4 o4=>?_))
     rw [Int.toNat_natCast] at o4
     have o4:Own G4 bo 4 (LB (F.set k' ((es.getD j (0,0)).1==((wk es p e t).2:Int)))):=by simpa using o4
     have o94:=b4.own o9 (by omega)
     have l14:H1.le G4:=b4.le (AHeap.le_trans l1G l13') (by omega)
     unfold F94.B5
     refine zac o94 rfl (zac o94 rfl ?_)
     unfold F94.B4
     have hon':=hon
     unfold on at hon'
     simp only [Bool.or_eq_true,beq_iff_eq] at hon'
     rw [zad (x:=_+_) (by omega) (by omega),zad (by omega) (by omega)]
     refine ⟨⟨rfl,rfl,rfl,l14,t+1,k',_,hTt,rfl,hkl,by rw [hj,e1],?_,by simpa using hF,o4,fun i hi=>?_⟩,?_⟩
     ·rw [e2];unfold othN;rw [Int.toNat_natCast];omega
     ·rw [zmv (by omega)]
      by_cases hik:k'=i
      ·subst hik
       rw [if_pos rfl,beq_iff_eq]
       have hd:(dirT es p e (t+1)).2=((es.getD (wk es p e (t+1)).1 (0,0)).2==((wk es p e t).2:Int)):=rfl
       constructor
       ·intro hh
        refine ⟨t+1,Nat.le_refl _,?_,by rw [hj,e1]⟩
        rw [hd,e1,beq_eq_false_iff_ne];omega
       ·rintro ⟨s,s1,s2,s3⟩
        have:s=t+1:=zh4 hg h2 he hpe (by omega) (by omega) (by rw [e1];omega)
        subst this
        rw [hd,e1,beq_eq_false_iff_ne] at s2
        omega
      ·rw [if_neg hik,hFi i hi]
       constructor
       ·rintro ⟨s,s1,s2⟩;exact ⟨s,by omega,s2⟩
       ·rintro ⟨s,s1,s2,s3⟩
        rcases Nat.lt_or_ge t s with hlt|hge
        ·obtain rfl:s=t+1:=by omega
         exact absurd (hinj _ _ hkl hi (by rw [hj,s3,e1])) hik
        ·exact ⟨s,hge,s2,s3⟩
     ·have p1:=zuX hg h2 he hpe hT ht
      have p2:=zuX hg h2 he hpe hT hTt
      rw [e1] at p2
      show T-posW es p e T (l.getD (((k':Nat):Int)).toNat 0)<T-posW es p e T (l.getD (((now:Nat):Int)).toNat 0)
      rw [Int.toNat_natCast,Int.toNat_natCast,hj,hln,p1,p2];omega
   ·unfold F94.B3
    rw [zad (by omega) (by omega)]
    refine ⟨⟨rfl,rfl,rfl,rfl,rfl,lG3,k'+1,by omega,by omega,fun i hi hin=>?_⟩,by show l.length-((k':Int)+1).toNat<l.length-(k':Int).toNat;omega⟩
    by_cases hik:i=k'
    ·subst hik
     rw [hj,Int.toNat_natCast]
     unfold on
     rw [Bool.eq_false_iff]
     simpa using hon
    ·exact hnone i (by omega) hin
  ·have hkn:k'=now:=by have:=bne_eq_false_iff_eq.1 hkn;omega
   unfold F94.B3
   rw [zad (by omega) (by omega)]
   refine ⟨⟨rfl,rfl,rfl,rfl,rfl,lG3,k'+1,by omega,by omega,fun i hi hin=>?_⟩,by show l.length-((k':Int)+1).toNat<l.length-(k':Int).toNat;omega⟩
   exact hnone i (by omega) hin
 ·have hkl:k'=l.length:=by have:=of_decide_eq_false hb;omega
  subst hkl
  exfalso
  obtain ⟨i,i1,i2⟩:=hidx q q2
  have hin:i≠now:=fun hh=>q3 (by rw [hh,hln] at i2;omega)
  have:=hnone i i1 hin
  rw [i2,Int.toNat_natCast,q4] at this
  cases this
end Go.Proofs
namespace Go.Proofs
open Go.Abs

variable {H G:AHeap} {v u f:Value} {l m c:List Int} {es fs:List (Int × Int)} {K:Value→AHeap→Prop} {ls ms:List (List Int)}

theorem zsV {p:List Int→Bool} (h:RowsR H v ls) (hl:ls.length≤4611686018427387904) (hf:∀ i,i<ls.length→∀ G,H.le G→∀ w,Ints G w (ls.getD i [])→Cl G f w (p (ls.getD i []))) (k:∀ r G,H.le G→decide (r≥0)=ls.any p→K (.int .i64 r) G) :
 AC Tryz.prog T0 206 [v,f] H K:=by
 apply F206.ac
 unfold F206.B9 F206.B8
 refine h.len ?_
 unfold F206.L2
 refine ⟨fun x0 x1 x7 x8 G=>v=x0∧f=x1∧(ls.length:Int)=x7∧H.le G∧∃ n:Nat,x8=n∧n≤ls.length∧∀ i:Nat,i<n→p (ls.getD i [])=false,fun _ _ _ x8 _=>ls.length-x8.toNat,⟨rfl,rfl,rfl,AHeap.le_refl _,0,rfl,by omega,fun i hi=>absurd hi (by omega)⟩,?_⟩
 rintro x0 x1 x7 x8 G ⟨rfl,rfl,rfl,hG,n,rfl,hn',hp⟩
 unfold F206.B7
 refine zaa (fun hb=>?_) fun hb=>?_
 ·have hn:n<ls.length:=by have:=of_decide_eq_true hb;omega
  unfold F206.B6 F206.B5
  refine (h.le hG).row hn fun w hw=>hf n hn G hG w hw G (AHeap.le_refl _) _ fun G2 hG2=>zai (zaa (fun hb=>?_) fun hb=>?_)
  ·unfold F206.B4
   refine k _ _ (AHeap.le_trans hG hG2) ?_
   rw [List.any_eq_true.2 ⟨ls.getD n [],by rw [zae hn];exact List.getElem_mem hn,hb⟩];simp
  ·unfold F206.B3
   rw [zad (by omega) (by omega)]
   refine ⟨⟨rfl,rfl,rfl,AHeap.le_trans hG hG2,n+1,by omega,by omega,fun i hi=>?_⟩,by simp;omega⟩
   by_cases he:i=n
   ·subst he;exact hb
   ·exact hp i (by omega)
 ·have hge:n=ls.length:=by have:=of_decide_eq_false hb;omega
  unfold F206.B1
  refine k _ _ hG ?_
  have:ls.any p=false:=by
   rw [List.any_eq_false]
   intro e he
   obtain ⟨i,hi,rfl⟩:=List.getElem_of_mem he
   have:=hp i (by omega)
   rw [zae hi] at this;simp [this]
  rw [this];simp
theorem zqZ {p:List Int→Bool} (h:RowsR H v ls) (hl:ls.length≤4611686018427387904) (hf1:f.oneCell'=true) (hf:∀ i,i<ls.length→∀ G,H.le G→∀ w,Ints G w (ls.getD i [])→Cl G f w (p (ls.getD i []))) (k:∀ G,H.le G→K (.bool (ls.all p)) G) :
 AC Tryz.prog T0 137 [v,f] H K:=by
 apply F137.ac
 unfold F137.B2
 refine zay hf1 (zaf (by simp [hf1]) fun H1 l1 n1 o1=>?_)
 unfold F137.B1
 apply F185.ac
 unfold F185.B2 F185.B1
 refine zsV (p:=fun e=>!p e) (h.le l1) hl (fun i hi G hG w hw=>?_) fun r G hG hr=>zag (zai ?_)
 ·intro G2 hG2 K k
  refine zaJ ?_
  apply F186.ac
  unfold F186.B2 F186.B1
  refine zaq (zab ((o1.le hG).le hG2) rfl ?_)
  exact hf i hi G (AHeap.le_trans l1 hG) w hw G2 hG2 _ fun G' hG'=>zai (k _ hG')
 ·have:=k G (AHeap.le_trans l1 hG)
  rw [hr,show (!ls.any fun e=>!p e)=ls.all p by rw [List.all_eq_not_any_not]]
  exact this
def SetsB (es:List (Int × Int)) (ls:List (List Int)):Prop:=∀ l∈ls,IsS l es.length
noncomputable instance (es:List (Int × Int)) (ls:List (List Int)):Decidable (SetsB es ls):=Classical.propDecidable _
theorem zkn {n:Int} (h:Edges H v es) (hl:es.length≤1048576) (hr:RowsR H u ls) (hrl:ls.length≤1048576) (hrr:∀ l∈ls,l.length≤1048576) (k:∀ G,H.le G→K (.bool (decide (SetsB es ls))) G) :
 AC Tryz.prog T0 83 [.agg ⟨[.int .i64 n,v]⟩,u] H K:=by
 apply F83.ac
 unfold F83.B2
 refine zaf (zak (zah h)) fun H1 l1 n1 o1=>?_
 unfold F83.B1
 refine zqZ (p:=fun l=>decide (IsS l es.length)) (hr.le l1) (by omega) rfl (fun i hi G hG w hw=>?_) fun G hG=>zai ?_
 ·intro G2 hG2 K k
  refine zaJ ?_
  apply F138.ac
  unfold F138.B2 F138.B1
  have hll:(ls.getD i []).length≤1048576:=by rw [zae hi];exact hrr _ (List.getElem_mem hi)
  exact zaq (zab ((o1.le hG).le hG2) rfl (zbe (h.le (AHeap.le_trans l1 (AHeap.le_trans hG hG2))) (zag (zfc (hw.le hG2) (by omega) (by omega) (by omega) (zai (k _ (AHeap.le_refl _)))))))
 ·have k:=k G (AHeap.le_trans l1 hG)
  have e:ls.all (fun l=>decide (IsS l es.length))=decide (SetsB es ls):=by
   rw [Bool.eq_iff_iff,List.all_eq_true,decide_eq_true_iff]
   exact ⟨fun h l hl=>of_decide_eq_true (h l hl),fun h l hl=>decide_eq_true (h l hl)⟩
  rw [e];exact k
theorem zfQ {n:Int} (h:Edges H v es) (hl:es.length≤1048576) (hr:RowsR H u ls) (hrl:ls.length≤1048576) (hrr:∀ l∈ls,l.length≤1048576) (k:∀ G,H.le G→K (.int .i64 (if IsG n es then (if SetsB es ls then 0 else 2) else 1)) G) :
 AC Tryz.prog T0 88 [.agg ⟨[.int .i64 n,v]⟩,u] H K:=by
 apply F88.ac
 unfold F88.B11
 refine zaf (zak (zah h)) fun H1 l1 n1 o1=>?_
 unfold F88.B10
 refine zac o1 rfl (zab o1 rfl (zbp (h.le l1) hl fun H2 l2=>zai ?_))
 have l12:=AHeap.le_trans l1 l2
 have k:=k _ l12
 refine zaa (fun hb=>?_) fun hb=>?_
 ·rw [Bool.not_eq_true'] at hb
  unfold F88.B9
  rw [if_neg (of_decide_eq_false hb)] at k;exact k
 ·rw [Bool.not_eq_false'] at hb
  rw [if_pos (of_decide_eq_true hb)] at k
  unfold F88.B8 F88.L2
  refine ⟨fun x1 x2 x5 G=>u=x1∧H.length=x2∧H2=G∧∃ i:Nat,x5=i∧i≤ls.length∧∀ j,j<i→IsS (ls.getD j []) es.length,fun _ _ x5 _=>ls.length-x5.toNat,⟨rfl,rfl,rfl,0,rfl,by omega,fun j hj=>absurd hj (by omega)⟩,?_⟩
  rintro x1 x2 x5 G ⟨rfl,rfl,rfl,i,rfl,hi,hp⟩
  unfold F88.B7
  refine (hr.le l12).len (zaa (fun hb=>?_) fun hb=>?_)
  ·have hlt:i<ls.length:=by have:=of_decide_eq_true hb;omega
   have hll:(ls.getD i []).length≤1048576:=by rw [zae hlt];exact hrr _ (List.getElem_mem hlt)
   unfold F88.B6
   refine (hr.le l12).row hlt fun w hw=>zab (o1.le l2) rfl ((h.le l12).len (zgq hw (by omega) (by omega) (by omega) (zag ?_)))
   unfold F88.B5
   by_cases hs:IsS (ls.getD i []) es.length
   ·rw [if_pos hs]
    refine zaz rfl ?_
    unfold F88.B3
    rw [zad (by omega) (by omega)]
    refine ⟨⟨rfl,rfl,rfl,i+1,by omega,by omega,fun j hj=>?_⟩,by simp;omega⟩
    by_cases e:j=i
    ·subst e;exact hs
    ·exact hp j (by omega)
   ·rw [if_neg hs]
    refine zay rfl ?_
    unfold F88.B4
    rw [if_neg fun h:SetsB es ls=>hs (by rw [zae hlt];exact h _ (List.getElem_mem hlt))] at k
    exact k
  ·have hge:i=ls.length:=by have:=of_decide_eq_false hb;omega
   subst hge
   unfold F88.B1
   rw [if_pos (show SetsB es ls from fun l hl=>by
    obtain ⟨j,hj,rfl⟩:=List.getElem_of_mem hl
    have:=hp j hj
    rwa [zae hj] at this)] at k
   exact k
def cntL (m:Nat) (l:List Int):List Int:=l.foldl bump1 (List.replicate m 0)
theorem zaQ (m:Nat) (l:List Int):(cntL m l).length=m:=by
 have key:∀ (l:List Int) (cs:List Int),(l.foldl bump1 cs).length=cs.length:=by
  intro l
  induction l with
  | nil=>intro cs;rfl
  | cons x l ih=>intro cs;rw [List.foldl_cons,ih,zaP]
 unfold cntL;rw [key];simp
theorem ziL (m:Nat) (l:List Int) (x:Int):cntL m (l++[x])=bump1 (cntL m l) x:=by unfold cntL;rw [List.foldl_append];rfl
theorem znZ (m:Nat) (l:List Int):∀ c∈cntL m l,0≤c∧c≤l.length:=by
 have key:∀ (l:List Int) (cs:List Int) (B:Int),(∀ c∈cs,0≤c∧c≤B)→∀ c∈l.foldl bump1 cs,0≤c∧c≤B+l.length:=by
  intro l
  induction l with
  | nil=>intro cs B h c hc;have:=h c hc;simp;omega
  | cons x l ih=>
   intro cs B h c hc
   have:=ih (bump1 cs x) (B+1) (fun c hc=>by have:=zfb h x c hc;omega) c hc
   simp;omega
 intro c hc
 have:=key l _ 0 (by intro c hc;rw [List.mem_replicate] at hc;omega) c hc
 omega
noncomputable def dblB (n:Int) (es:List (Int × Int)) (ls:List (List Int)):Bool:=ls.all (cycB n es)&&(cntL es.length ls.flatten).all (fun c=>c==2)
theorem zd3 {i:Nat} (h:i<ls.length):(ls.take (i+1)).flatten=(ls.take i).flatten++ls.getD i []:=by
 rw [List.take_succ_eq_append_getElem h,List.flatten_append,zae h];simp
theorem zqR:ls.flatten.length=totL ls:=by unfold totL;rw [List.length_flatten]
theorem zeQ (i:Nat):(ls.take i).flatten.length≤totL ls:=by rw [zqR];exact zoV i
theorem zxj {p:List Int→Bool} {i:Nat} (hi:i<ls.length) (h:p (ls.getD i [])=false):ls.all p=false:=by
 cases ha:ls.all p with
 | false=>rfl
 | true=>
  rw [List.all_eq_true] at ha
  have:=ha _ (List.getElem_mem hi)
  rw [← zae (d:=[]) hi,h] at this
  cases this
theorem zeU {n:Int} (h:Edges H v es) (hg:IsG n es) (hr:RowsR H u ls) (hrl:ls.length≤1048576) (ht:totL ls≤1048576) (hS:SetsB es ls) (k:∀ G,H.le G→K (.bool (dblB n es ls)) G) :
 AC Tryz.prog T0 89 [.agg ⟨[.int .i64 n,v]⟩,u] H K:=by
 have h30:es.length≤30:=by have:=hg.ed.len;have:=hg.ed.hi;omega
 apply F89.ac
 unfold F89.B20
 refine zaf (zak (zah h)) fun H1 l1 n1 o1=>?_
 unfold F89.B19
 refine zab o1 rfl ((h.le l1).len (zaF (by omega) (by omega) (by decide) fun H2 l2 n2 o2=>?_))
 rw [Int.toNat_natCast,zb3] at o2
 rw [Int.toNat_natCast]
 have hsl:∀ cs:List Int,cs.length=es.length→(.slice (some ⟨H1.length,0,none⟩) es.length (es.length+1):Value)=.slice (some ⟨H1.length,0,none⟩) cs.length (cs.length+1):=fun cs h=>by rw [h]
 unfold F89.B18 F89.L8
 refine ⟨fun x1 x2 x5 x6 G=>u=x1∧H.length=x2∧.slice (some ⟨H1.length,0,none⟩) es.length (es.length+1)=x5∧H1.le G∧∃ i:Nat,x6=i∧i≤ls.length∧Own G H1.length 2 (LI (cntL es.length (ls.take i).flatten))∧∀ j,j<i→cycB n es (ls.getD j [])=true,fun _ _ _ x6 _=>ls.length-x6.toNat,⟨rfl,rfl,rfl,l2,0,rfl,by omega,o2,fun j hj=>absurd hj (by omega)⟩,?_⟩
 rintro x1 x2 x5 x6 G ⟨rfl,rfl,rfl,hG,i,rfl,hi,oC,hp⟩
 have lG:=AHeap.le_trans l1 hG
 have oG:=o1.le hG
 unfold F89.B17
 refine (hr.le lG).len (zaa (fun hb=>?_) fun hb=>?_)
 ·have hlt:i<ls.length:=by have:=of_decide_eq_true hb;omega
  have hs:IsS (ls.getD i []) es.length:=by rw [zae hlt];exact hS _ (List.getElem_mem hlt)
  have hfl:=zeQ (ls:=ls) (i+1)
  rw [zd3 hlt,List.length_append] at hfl
  unfold F89.B16
  refine zac oG rfl (zab oG rfl ((hr.le lG).row hlt fun w hw=>zjs (h.le lG) hg hw hs fun G2 l2=>zai (zaa (fun hb=>?_) fun hb=>?_)))
  ·rw [Bool.not_eq_true'] at hb
   unfold F89.B15
   have k:=k _ (AHeap.le_trans lG l2)
   unfold dblB at k
   rw [zxj hlt hb,Bool.false_and] at k
   exact k
  ·rw [Bool.not_eq_false'] at hb
   unfold F89.B14 F89.L10
   refine ⟨fun x1 x2 x5 x6 x7 G=>u=x1∧H.length=x2∧.slice (some ⟨H1.length,0,none⟩) es.length (es.length+1)=x5∧(i:Int)=x6∧H1.le G∧∃ t:Nat,x7=t∧t≤(ls.getD i []).length∧Own G H1.length 2 (LI (cntL es.length ((ls.take i).flatten++(ls.getD i []).take t))),fun _ _ _ _ x7 _=>(ls.getD i []).length-x7.toNat,⟨rfl,rfl,rfl,rfl,AHeap.le_trans hG l2,0,rfl,by omega,by simpa using oC.le l2⟩,?_⟩
   rintro x1 x2 x5 x6 x7 G3 ⟨rfl,rfl,rfl,rfl,hG3,t,rfl,ht',oC3⟩
   have lG3:=AHeap.le_trans l1 hG3
   unfold F89.B13
   refine (hr.le lG3).row hlt fun w3 hw3=>hw3.len (zaa (fun hb'=>?_) fun hb'=>?_)
   ·have htl:t<(ls.getD i []).length:=by have:=of_decide_eq_true hb';omega
    have hx:=hs.range _ (List.getElem_mem htl)
    unfold F89.B12
    refine (hr.le lG3).row hlt fun w4 hw4=>hw4.rd (by omega) (by omega) ?_
    rw [Int.toNat_natCast,zae htl,hsl _ (zaQ _ _)]
    refine zdI oC3 hx.1 (by rw [zaQ];exact hx.2) (fun c hc=>by
     have:=znZ _ _ c hc
     have h5:((ls.getD i []).take t).length≤(ls.getD i []).length:=List.length_take_le' ..
     rw [List.length_append] at this
     omega) fun G4 b4 o4=>?_
    rw [← hsl _ (zaQ _ _)]
    unfold F89.B11
    rw [zad (by omega) (by omega)]
    refine ⟨⟨rfl,rfl,rfl,rfl,b4.le hG3 (Nat.le_refl _),t+1,by omega,by omega,?_⟩,show (ls.getD i []).length-((t:Int)+1).toNat<(ls.getD i []).length-((t:Nat):Int).toNat by omega⟩
    rw [List.take_succ_eq_append_getElem htl,← List.append_assoc,ziL];exact o4
   ·have hge:t=(ls.getD i []).length:=by have:=of_decide_eq_false hb';omega
    subst hge
    rw [List.take_length] at oC3
    unfold F89.B9
    rw [zad (by omega) (by omega)]
    refine ⟨⟨rfl,rfl,rfl,hG3,i+1,by omega,by omega,by rw [zd3 hlt];exact oC3,fun j hj=>?_⟩,by simp;omega⟩
    by_cases e:j=i
    ·subst e;exact hb
    ·exact hp j (by omega)
 ·have hge:i=ls.length:=by have:=of_decide_eq_false hb;omega
  subst hge
  rw [List.take_length] at oC
  have hall:ls.all (cycB n es)=true:=by
   rw [List.all_eq_true]
   intro l hl
   obtain ⟨j,hj,rfl⟩:=List.getElem_of_mem hl
   have:=hp j hj
   rwa [zae hj] at this
  have hC:=zau (c:=es.length+1) oC
  rw [zaQ] at hC
  have k:=k _ lG
  unfold dblB at k
  rw [hall,Bool.true_and] at k
  unfold F89.B7 F89.L2
  refine ⟨fun x5 x8 G'=>.slice (some ⟨H1.length,0,none⟩) es.length (es.length+1)=x5∧G=G'∧∃ e:Nat,x8=e∧e≤es.length∧∀ j,j<e→(cntL es.length ls.flatten).getD j 0=2,fun _ x8 _=>es.length-x8.toNat,⟨rfl,rfl,0,rfl,by omega,fun j hj=>absurd hj (by omega)⟩,?_⟩
  rintro x5 x8 G' ⟨rfl,rfl,e,rfl,he,hq⟩
  unfold F89.B6
  refine zba (zaa (fun hb=>?_) fun hb=>?_)
  ·have hlt:e<es.length:=by have:=of_decide_eq_true hb;omega
   have hlt2:e<(cntL es.length ls.flatten).length:=by rw [zaQ];exact hlt
   unfold F89.B5
   refine hC.rd (by omega) (by omega) ?_
   rw [Int.toNat_natCast]
   refine zaa (fun hs=>?_) fun hs=>?_
   ·unfold F89.B4
    rw [show (cntL es.length ls.flatten).all (fun c=>c==2)=false from by
     cases ha:(cntL es.length ls.flatten).all (fun c=>c==2) with
     | false=>rfl
     | true=>
      rw [List.all_eq_true] at ha
      have:=ha _ (List.getElem_mem hlt2)
      rw [← zae (d:=0) hlt2] at this
      rw [beq_iff_eq.1 this] at hs;cases hs] at k
    exact k
   ·unfold F89.B3
    rw [zad (by omega) (by omega)]
    refine ⟨⟨rfl,rfl,e+1,by omega,by omega,fun j hj=>?_⟩,by simp;omega⟩
    by_cases e':j=e
    ·subst e';exact bne_eq_false_iff_eq.1 hs
    ·exact hq j (by omega)
  ·have hge:e=es.length:=by have:=of_decide_eq_false hb;omega
   subst hge
   unfold F89.B1
   rw [show (cntL es.length ls.flatten).all (fun c=>c==2)=true from by
    rw [List.all_eq_true]
    intro c hc
    obtain ⟨j,hj,rfl⟩:=List.getElem_of_mem hc
    have:=hq j (by rw [zaQ] at hj;exact hj)
    rw [zae hj] at this
    rw [this];rfl] at k
   exact k
theorem zvW:∀ c:Int,Cl H (.func (.func 140) ⟨[]⟩ ⟨[]⟩) (.int .i64 c) (c==2):=by
 intro c G hG K k
 refine zaJ ?_
 apply F140.ac
 unfold F140.B2 F140.B1
 exact k _ (AHeap.le_refl _)
theorem zij {n:Int} (h:Edges H v es) (hg:IsG n es) (hr:RowsR H u ls) (hrl:ls.length≤1048576) (ht:totL ls≤1048576) (hS:SetsB es ls) (k:∀ G,H.le G→K (.bool (dblB n es ls)) G) :
 AC Tryz.prog T0 84 [.agg ⟨[.int .i64 n,v]⟩,u] H K:=by
 have h30:es.length≤30:=by have:=hg.ed.len;have:=hg.ed.hi;omega
 apply F84.ac
 unfold F84.B16
 refine zaf (zak (zah h)) fun H1 l1 n1 o1=>?_
 unfold F84.B15
 refine zab o1 rfl ((h.le l1).len (zaF (by omega) (by omega) (by decide) fun H2 l2 n2 o2=>?_))
 rw [Int.toNat_natCast,zb3] at o2
 rw [Int.toNat_natCast]
 have hsl:∀ cs:List Int,cs.length=es.length→(.slice (some ⟨H1.length,0,none⟩) es.length (es.length+1):Value)=.slice (some ⟨H1.length,0,none⟩) cs.length (cs.length+1):=fun cs h=>by rw [h]
 unfold F84.B14
 refine (hr.le (AHeap.le_trans l1 l2)).len ?_
 unfold F84.L2
 refine ⟨fun x2 x5 x14 x15 x16 G=>H.length=x2∧.slice (some ⟨H1.length,0,none⟩) es.length (es.length+1)=x5∧u=x14∧(ls.length:Int)=x15∧H1.le G∧∃ i:Nat,x16=i∧i≤ls.length∧Own G H1.length 3 (LI (cntL es.length (ls.take i).flatten))∧∀ j,j<i→cycB n es (ls.getD j [])=true,fun _ _ _ _ x16 _=>ls.length-x16.toNat,⟨rfl,rfl,rfl,rfl,l2,0,rfl,by omega,o2,fun j hj=>absurd hj (by omega)⟩,?_⟩
 rintro x2 x5 x14 x15 x16 G ⟨rfl,rfl,rfl,rfl,hG,i,rfl,hi,oC,hp⟩
 have lG:=AHeap.le_trans l1 hG
 have oG:=o1.le hG
 unfold F84.B13
 refine zaa (fun hb=>?_) fun hb=>?_
 ·have hlt:i<ls.length:=by have:=of_decide_eq_true hb;omega
  have hs:IsS (ls.getD i []) es.length:=by rw [zae hlt];exact hS _ (List.getElem_mem hlt)
  have hfl:=zeQ (ls:=ls) (i+1)
  rw [zd3 hlt,List.length_append] at hfl
  have hss:=hs.short
  unfold F84.B12
  refine hr.rowB lG hlt fun w hw0=>?_
  have hw:=hw0.le lG
  unfold F84.B11
  refine zac oG rfl (zab oG rfl (zbk hw (by omega) (fun x hx=>by have:=hs.range x hx;omega) (zag ⟨AHeap.le_refl _,zj9 (h.le lG) hg hs fun G2 l2=>zai (zaa (fun hb=>?_) fun hb=>?_)⟩)))
  ·rw [Bool.not_eq_true'] at hb
   unfold F84.B10
   have k:=k _ (AHeap.le_trans lG l2)
   unfold dblB at k
   rw [zxj hlt hb,Bool.false_and] at k
   exact k
  ·rw [Bool.not_eq_false'] at hb
   unfold F84.B9
   have hw2:=hw.le l2
   refine hw2.len ?_
   unfold F84.L4
   refine ⟨fun x2 x5 x14 x15 x16 x25 x26 x27 G=>H.length=x2∧.slice (some ⟨H1.length,0,none⟩) es.length (es.length+1)=x5∧u=x14∧(ls.length:Int)=x15∧(i:Int)=x16∧w=x25∧((ls.getD i []).length:Int)=x26∧H1.le G∧∃ t:Nat,x27=t∧t≤(ls.getD i []).length∧Own G H1.length 3 (LI (cntL es.length ((ls.take i).flatten++(ls.getD i []).take t))),fun _ _ _ _ _ _ _ x27 _=>(ls.getD i []).length-x27.toNat,⟨rfl,rfl,rfl,rfl,rfl,rfl,rfl,AHeap.le_trans hG l2,0,rfl,by omega,by simpa using oC.le l2⟩,?_⟩
   rintro x2 x5 x14 x15 x16 x25 x26 x27 G3 ⟨rfl,rfl,rfl,rfl,rfl,rfl,rfl,hG3,t,rfl,ht',oC3⟩
   have hw3:=hw0.le (AHeap.le_trans l1 hG3)
   unfold F84.B8
   refine zaa (fun hb'=>?_) fun hb'=>?_
   ·have htl:t<(ls.getD i []).length:=by have:=of_decide_eq_true hb';omega
    have hx:=hs.range _ (List.getElem_mem htl)
    unfold F84.B7
    refine hw3.rd (by omega) (by omega) ?_
    rw [Int.toNat_natCast,zae htl]
    unfold F84.B6
    rw [hsl _ (zaQ _ _)]
    refine zdI oC3 hx.1 (by rw [zaQ];exact hx.2) (fun c hc=>by
     have:=znZ _ _ c hc
     have h5:((ls.getD i []).take t).length≤(ls.getD i []).length:=List.length_take_le' ..
     rw [List.length_append] at this
     omega) fun G4 b4 o4=>?_
    rw [← hsl _ (zaQ _ _)]
    unfold F84.B5
    rw [zad (by omega) (by omega)]
    have l4:=b4.le hG3 (Nat.le_refl _)
    refine ⟨⟨rfl,rfl,rfl,rfl,rfl,rfl,rfl,l4,t+1,by omega,by omega,?_⟩,show (ls.getD i []).length-((t:Int)+1).toNat<(ls.getD i []).length-((t:Nat):Int).toNat by omega⟩
    ·rw [List.take_succ_eq_append_getElem htl,← List.append_assoc,ziL];exact o4
   ·have hge:t=(ls.getD i []).length:=by have:=of_decide_eq_false hb';omega
    subst hge
    rw [List.take_length] at oC3
    unfold F84.B3
    rw [zad (by omega) (by omega)]
    refine ⟨⟨rfl,rfl,rfl,rfl,hG3,i+1,by omega,by omega,by rw [zd3 hlt];exact oC3,fun j hj=>?_⟩,by simp;omega⟩
    by_cases e:j=i
    ·subst e;exact hb
    ·exact hp j (by omega)
 ·have hge:i=ls.length:=by have:=of_decide_eq_false hb;omega
  subst hge
  rw [List.take_length] at oC
  have hall:ls.all (cycB n es)=true:=by
   rw [List.all_eq_true]
   intro l hl
   obtain ⟨j,hj,rfl⟩:=List.getElem_of_mem hl
   have:=hp j hj
   rwa [zae hj] at this
  have hC:=zau (c:=es.length+1) oC
  rw [zaQ] at hC
  unfold F84.B1
  refine zkl (p:=fun c=>c==2) hC (by rw [zaQ];omega) rfl (fun c _=>zvW c) fun G2 l2=>zai ?_
  have k:=k _ (AHeap.le_trans lG l2)
  unfold dblB at k
  rw [hall,Bool.true_and] at k
  exact k
noncomputable def dcCode (n:Int) (es:List (Int × Int)) (ls:List (List Int)):Int:=if IsG n es then (if SetsB es ls then 0 else 2) else 1
noncomputable def dcB (n:Int) (es:List (Int × Int)) (ls:List (List Int)):Bool:=if dcCode n es ls=0 then dblB n es ls else false
theorem zen {n:Int} (h:dcCode n es ls=0):IsG n es∧SetsB es ls:=by
 unfold dcCode at h
 by_cases hg:IsG n es
 ·rw [if_pos hg] at h
  by_cases hs:SetsB es ls
  ·exact ⟨hg,hs⟩
  ·rw [if_neg hs] at h;cases h
 ·rw [if_neg hg] at h;cases h
theorem zlP {l:List Int} (h:l∈ls):l.length≤totL ls:=by
 induction ls with
 | nil=>cases h
 | cons a ls ih=>
  rcases List.mem_cons.1 h with rfl|h
  ·simp [totL]
  ·have:=ih h
   simp [totL] at this ⊢;omega
theorem zkU {n:Int} (h:Edges H v es) (hl:es.length≤1048576) (hr:RowsR H u ls) (hrl:ls.length+totL ls≤1048576)
 (k:∀ G,H.le G→K (.tuple ⟨[.bool (dcB n es ls),.int .i64 (dcCode n es ls)]⟩) G):AC Tryz.prog T0 36 [.agg ⟨[.int .i64 n,v]⟩,u] H K:=by
 have hrr:∀ l∈ls,l.length≤1048576:=fun l hl=>by have:=zlP hl;omega
 apply F36.ac
 unfold F36.B5
 refine zaf (zak (zah h)) fun H1 l1 n1 o1=>?_
 unfold F36.B4
 refine zac o1 rfl (zab o1 rfl (zfQ (h.le l1) hl (hr.le l1) (by omega) hrr fun H2 l2=>zag ?_))
 have l12:=AHeap.le_trans l1 l2
 rw [show (if IsG n es then (if SetsB es ls then 0 else 2) else 1:Int)=dcCode n es ls from rfl]
 unfold F36.B3
 unfold dcB at k
 refine zaa (fun hs=>?_) fun hs=>?_
 ·unfold F36.B2
  have k:=k _ l12
  rw [if_neg (bne_iff_ne.1 hs)] at k;exact k
 ·have h0:dcCode n es ls=0:=bne_eq_false_iff_eq.1 hs
  obtain ⟨hg,hS⟩:=zen h0
  unfold F36.B1
  refine zac (o1.le l2) rfl (zab (o1.le l2) rfl (zeU (h.le l12) hg (hr.le l12) (by omega) (by omega) hS fun H3 l3=>zai ?_))
  have k:=k _ (AHeap.le_trans l12 l3)
  rw [if_pos h0,h0] at k;exact k
theorem zej {n:Int} (h:Edges H v es) (hl:es.length≤1048576) (hr:RowsR H u ls) (hrl:ls.length+totL ls≤1048576)
 (k:∀ G,H.le G→K (.tuple ⟨[.bool (dcB n es ls),.int .i64 (dcCode n es ls)]⟩) G):AC Tryz.prog T0 27 [.agg ⟨[.int .i64 n,v]⟩,u] H K:=by
 have hrr:∀ l∈ls,l.length≤1048576:=fun l hl=>by have:=zlP hl;omega
 apply F27.ac
 unfold F27.B5
 refine zaf (zak (zah h)) fun H1 l1 n1 o1=>?_
 unfold F27.B4
 refine zac o1 rfl (zab o1 rfl (zac o1 rfl (zab o1 rfl (zkn (h.le l1) hl (hr.le l1) (by omega) hrr fun H2 l2=>zai ⟨l2,zaA (h.le (AHeap.le_trans l1 l2)) hl fun H3 l3=>zag ?_⟩))))
 have l13:=AHeap.le_trans l1 (AHeap.le_trans l2 l3)
 have e:(if IsG n es then (if decide (SetsB es ls)=true then 0 else 2) else 1:Int)=dcCode n es ls:=by
  unfold dcCode
  by_cases hs:SetsB es ls
  ·rw [decide_eq_true hs,if_pos rfl,if_pos hs]
  ·rw [decide_eq_false hs,if_neg hs];rfl
 rw [e]
 unfold F27.B3
 unfold dcB at k
 refine zaa (fun hs=>?_) fun hs=>?_
 ·unfold F27.B2
  have k:=k _ l13
  rw [if_neg (bne_iff_ne.1 hs)] at k;exact k
 ·have h0:dcCode n es ls=0:=bne_eq_false_iff_eq.1 hs
  obtain ⟨hg,hS⟩:=zen h0
  unfold F27.B1
  refine zac ((o1.le l2).le l3) rfl (zab ((o1.le l2).le l3) rfl (zij (h.le l13) hg (hr.le l13) (by omega) (by omega) hS fun H4 l4=>zai ?_))
  have k:=k _ (AHeap.le_trans l13 l4)
  rw [if_pos h0,h0] at k;exact k
end Go.Proofs
namespace Go.Proofs
open Go.Abs

variable {H G:AHeap} {v u w f:Value} {l m c D ts:List Int} {es fs:List (Int × Int)} {K:Value→AHeap→Prop} {p:Nat→Bool} {e:Nat} {n:Int} {ls:List (List Int)}

noncomputable def sgn (es:List (Int × Int)) (ls:List (List Int)) (ts:List Int) (j i:Nat):Int:=if (j:Int)∈ls.getD i [] then (if fwB es (ls.getD i []) j==(ts.getD i 0==0) then 1 else -1) else 0
noncomputable def sgSum (es:List (Int × Int)) (ls:List (List Int)) (ts:List Int) (j i:Nat):Int:=((List.range i).map (sgn es ls ts j)).sum
theorem ze7 (j i:Nat):sgSum es ls ts j (i+1)=sgSum es ls ts j i+sgn es ls ts j i:=by
 unfold sgSum
 rw [List.range_succ,List.map_append,List.sum_append];simp
theorem zug (j i:Nat):-1≤sgn es ls ts j i∧sgn es ls ts j i≤1:=by
 unfold sgn
 split
 ·split <;> omega
 ·omega
theorem ziY (j:Nat):∀ i:Nat,-(i:Int)≤sgSum es ls ts j i∧sgSum es ls ts j i≤i
 | 0=>by simp [sgSum]
 | i+1=>by
  have h1:=ziY j i
  have h2:=zug (es:=es) (ls:=ls) (ts:=ts) j i
  rw [ze7];omega
def TurnsOk (ls:List (List Int)) (ts:List Int):Prop:=ts.length=ls.length∧∀ i,i<ts.length→0≤ts.getD i 0∧ts.getD i 0≤1
noncomputable instance (ls:List (List Int)) (ts:List Int):Decidable (TurnsOk ls ts):=Classical.propDecidable _
noncomputable def otCode (n:Int) (es:List (Int × Int)) (ls:List (List Int)) (ts:List Int):Int:=if dcCode n es ls=0 then (if TurnsOk ls ts then (if dblB n es ls=true then 0 else 5) else 2) else dcCode n es ls
noncomputable def orB (es:List (Int × Int)) (ls:List (List Int)) (ts:List Int):Bool:=@decide (∀ j,j<es.length→sgSum es ls ts j ls.length=0) (Classical.propDecidable _)
noncomputable def otB (n:Int) (es:List (Int × Int)) (ls:List (List Int)) (ts:List Int):Bool:=if otCode n es ls ts=0 then orB es ls ts else false
theorem ziC (h:otCode n es ls ts=0):IsG n es∧SetsB es ls∧TurnsOk ls ts∧dblB n es ls=true:=by
 unfold otCode at h
 by_cases h1:dcCode n es ls=0
 ·rw [if_pos h1] at h
  obtain ⟨a,b⟩:=zen h1
  by_cases h2:TurnsOk ls ts
  ·rw [if_pos h2] at h
   by_cases h3:dblB n es ls=true
   ·exact ⟨a,b,h2,h3⟩
   ·rw [if_neg h3] at h;cases h
  ·rw [if_neg h2] at h;cases h
 ·rw [if_neg h1] at h;exact absurd h h1
theorem zk1 (h:dblB n es ls=true) (hl:l∈ls):EvenS n es (bitB l)∧(cycOf es (bitB l) l).length=1:=by
 unfold dblB at h
 rw [Bool.and_eq_true,List.all_eq_true] at h
 have:=h.1 l hl
 unfold cycB at this
 rw [Bool.and_eq_true,decide_eq_true_iff,beq_iff_eq] at this
 exact ⟨this.1,by omega⟩
theorem zmq (h:Edges H v es) (hl:es.length≤1048576) (hr:RowsR H u ls) (hrl:ls.length+totL ls≤1048576) (hc:Ints H w ts) (htl:ts.length≤1048576)
 (k:∀ G,H.le G→K (.tuple ⟨[.bool (otB n es ls ts),.int .i64 (otCode n es ls ts)]⟩) G):AC Tryz.prog T0 31 [.agg ⟨[.int .i64 n,v]⟩,u,w] H K:=by
 have hrr:∀ l∈ls,l.length≤1048576:=fun l hl=>by have:=zlP hl;omega
 apply F31.ac
 unfold F31.B34
 refine zaf (zak (zah h)) fun H1 l1 n1 o1=>?_
 unfold F31.B33
 refine zac o1 rfl (zab o1 rfl (zfQ (h.le l1) hl (hr.le l1) (by omega) hrr fun H2 l2=>zag ?_))
 have l12:=AHeap.le_trans l1 l2
 have o2:=o1.le l2
 rw [show (if IsG n es then (if SetsB es ls then 0 else 2) else 1:Int)=dcCode n es ls from rfl]
 unfold F31.B32
 refine zaa (fun hs=>?_) fun hs=>?_
 ·unfold F31.B31
  have k:=k _ l12
  have e:otCode n es ls ts=dcCode n es ls:=by unfold otCode;rw [if_neg (bne_iff_ne.1 hs)]
  unfold otB at k
  rw [e,if_neg (bne_iff_ne.1 hs)] at k;exact k
 have h0:dcCode n es ls=0:=bne_eq_false_iff_eq.1 hs
 obtain ⟨hg,hS⟩:=zen h0
 have n0:=hg.ed.lo;have n1:=hg.ed.hi
 have h30:es.length≤30:=by have:=hg.ed.len;omega
 have bad:∀ G,H.le G→¬ TurnsOk ls ts→K (.tuple ⟨[.bool false,.int .i64 2]⟩) G:=fun G hG hn=>by
  have k:=k G hG
  have e:otCode n es ls ts=2:=by unfold otCode;rw [if_pos h0,if_neg hn]
  unfold otB at k
  rw [e,if_neg (by decide)] at k;exact k
 unfold F31.B30
 refine (hc.le l12).len ((hr.le l12).len (zaa (fun hs=>?_) fun hs=>?_))
 ·unfold F31.B29
  exact bad _ l12 fun ht=>by have:=ht.1;have:=bne_iff_ne.1 hs;omega
 have hlen:ts.length=ls.length:=by have:=bne_eq_false_iff_eq.1 hs;omega
 unfold F31.B28 F31.L23
 refine ⟨fun x1 x2 x3 x9 G=>u=x1∧w=x2∧H.length=x3∧H2=G∧∃ i:Nat,x9=i∧i≤ts.length∧∀ j,j<i→0≤ts.getD j 0∧ts.getD j 0≤1,fun _ _ _ x9 _=>ts.length-x9.toNat,⟨rfl,rfl,rfl,rfl,0,rfl,by omega,fun j hj=>absurd hj (by omega)⟩,?_⟩
 rintro x1 x2 x3 x9 G ⟨rfl,rfl,rfl,rfl,i,rfl,hi,hti⟩
 unfold F31.B27
 refine (hc.le l12).len (zaa (fun hb=>?_) fun hb=>?_)
 ·have hil:i<ts.length:=by have:=of_decide_eq_true hb;omega
  unfold F31.B26
  refine (hc.le l12).rd (by omega) (by omega) (zb5 (zai (zaa (fun hs=>?_) fun hs=>?_)))
  ·unfold F31.B25
   rw [Bool.not_eq_true',Int.toNat_natCast] at hs
   exact bad _ l12 fun ht=>of_decide_eq_false hs (ht.2 i hil)
  ·rw [Bool.not_eq_false',Int.toNat_natCast] at hs
   unfold F31.B24
   rw [zad (by omega) (by omega)]
   refine ⟨⟨rfl,rfl,rfl,rfl,i+1,by omega,by omega,fun j hj=>?_⟩,by show ts.length-((i:Int)+1).toNat<ts.length-(i:Int).toNat;omega⟩
   by_cases e:j=i
   ·subst e;exact of_decide_eq_true hs
   ·exact hti j (by omega)
 have hge:i=ts.length:=by have:=of_decide_eq_false hb;omega
 subst hge
 have hT:TurnsOk ls ts:=⟨hlen,hti⟩
 unfold F31.B22
 refine zac o2 rfl (zab o2 rfl (zeU (h.le l12) hg (hr.le l12) (by omega) (by omega) hS fun H3 l3=>zai (zaa (fun hs=>?_) fun hs=>?_)))
 ·rw [Bool.not_eq_true'] at hs
  unfold F31.B21
  have k:=k _ (AHeap.le_trans l12 l3)
  have e:otCode n es ls ts=5:=by unfold otCode;rw [if_pos h0,if_pos hT,if_neg (by rw [hs];decide)]
  unfold otB at k
  rw [e,if_neg (by decide)] at k;exact k
 rw [Bool.not_eq_false'] at hs
 have e0:otCode n es ls ts=0:=by unfold otCode;rw [if_pos h0,if_pos hT,if_pos hs]
 unfold otB at k
 rw [if_pos e0,e0] at k
 have l13:=AHeap.le_trans l2 l3
 have o3:=o1.le l13
 unfold F31.B20
 refine zab o3 rfl ((h.le (AHeap.le_trans l1 l13)).len (zaF (by omega) (by omega) (by decide) fun H4 l4 n4 o4=>?_))
 rw [zb3,Int.toNat_natCast] at o4
 rw [Int.toNat_natCast]
 obtain ⟨bz,hbz⟩:∃ bz,bz=H3.length:=⟨_,rfl⟩
 rw [← hbz] at o4 ⊢
 have hl13:=l13.1
 unfold F31.B19 F31.L8
 refine ⟨fun x1 x2 x3 x10 x11 G=>u=x1∧w=x2∧H.length=x3∧.slice (some ⟨bz,0,none⟩) es.length (es.length+1)=x10∧H1.le G∧∃ (i:Nat) (Z:List Int),x11=i∧i≤ls.length∧Z.length=es.length∧Own G bz 2 (LI Z)∧∀ j,j<es.length→Z.getD j 0=sgSum es ls ts j i,
  fun _ _ _ _ x11 _=>ls.length-x11.toNat,⟨rfl,rfl,rfl,rfl,AHeap.le_trans l13 l4,0,_,rfl,by omega,by simp,o4,fun j hj=>by simp [sgSum,List.getD,hj]⟩,?_⟩
 rintro x1 x2 x3 x10 x11 G ⟨rfl,rfl,rfl,rfl,lG,i,Z,rfl,hi,hZ,oZ,hZi⟩
 have l0G:=AHeap.le_trans l1 lG
 have oG:=o1.le lG
 unfold F31.B18
 refine (hr.le l0G).len (zaa (fun hb=>?_) fun hb=>?_)
 ·have hil:i<ls.length:=by have:=of_decide_eq_true hb;omega
  have hmem:ls.getD i []∈ls:=by rw [zae hil];exact List.getElem_mem hil
  have hsI:=hS _ hmem
  obtain ⟨hE,h1c⟩:=zk1 hs hmem
  have hnd:=zdl hsI.asc
  have hshort:=hsI.short2
  unfold F31.B17
  refine zac oG rfl (zab oG rfl ((hr.le l0G).row hil fun q hq=>zqQ (h.le l0G) hg hq hsI hE h1c fun wF Fl G2 l5 fF hFl hFi=>?_))
  have hbzG:bz<G.length:=zaj oZ
  unfold F31.B16 F31.L10
  refine ⟨fun x1 x2 x3 x10 x11 x12 x13 G'=>u=x1∧w=x2∧H.length=x3∧.slice (some ⟨bz,0,none⟩) es.length (es.length+1)=x10∧((i:Nat):Int)=x11∧wF=x12∧H1.le G'∧Sl G.length G' wF 4 1 (LB Fl)∧∃ (t:Nat) (Z:List Int),x13=t∧t≤(ls.getD i []).length∧Z.length=es.length∧Own G' bz 2 (LI Z)∧∀ j,j<es.length→Z.getD j 0=sgSum es ls ts j i+if (j:Int)∈(ls.getD i []).take t then sgn es ls ts j i else 0,
   fun _ _ _ _ _ _ x13 _=>(ls.getD i []).length-x13.toNat,⟨rfl,rfl,rfl,rfl,rfl,rfl,AHeap.le_trans lG l5,fF.sl,0,Z,rfl,by omega,hZ,oZ.le l5,fun j hj=>by rw [List.take_zero,if_neg (by simp),Int.add_zero];exact hZi j hj⟩,?_⟩
  clear oZ hZi hZ
  rintro x1 x2 x3 x10 x11 x12 x13 G3 ⟨rfl,rfl,rfl,rfl,rfl,rfl,lG3,sF,t,Z,rfl,ht,hZ,oZ,hZi⟩
  have l0G3:=AHeap.le_trans l1 lG3
  unfold F31.B15
  refine (hr.le l0G3).row hil fun q hq=>hq.len (zaa (fun hb=>?_) fun hb=>?_)
  ·have htl:t<(ls.getD i []).length:=by have:=of_decide_eq_true hb;omega
   have hx:=hsI.range _ (List.getElem_mem htl)
   obtain ⟨j,hj⟩:∃ j:Nat,(ls.getD i [])[t]=j:=⟨((ls.getD i [])[t]).toNat,by omega⟩
   have hjl:j<es.length:=by omega
   have hgt:(ls.getD i []).getD t 0=(j:Int):=by rw [zae htl,hj]
   have hjin:(j:Int)∈ls.getD i []:=by rw [← hj];exact List.getElem_mem htl
   have hFt:Fl.getD t false=fwB es (ls.getD i []) j:=by rw [hFi t htl,hgt,Int.toNat_natCast]
   have hsg:sgn es ls ts j i=if fwB es (ls.getD i []) j==(ts.getD i 0==0) then 1 else -1:=by unfold sgn;rw [if_pos hjin]
   have oi:=zau (c:=es.length+1) oZ
   rw [hZ] at oi
   have hjn:(j:Int)∉(ls.getD i []).take t:=fun hm=>by
    obtain ⟨s,hs1,hs2⟩:=List.getElem_of_mem hm
    rw [List.length_take] at hs1
    rw [List.getElem_take,← hj] at hs2
    have:=(List.getElem_inj hnd).1 hs2
    omega
   have hZj:Z.getD j 0=sgSum es ls ts j i:=by rw [hZi j hjl,if_neg hjn,Int.add_zero]
   have hbd:=ziY (es:=es) (ls:=ls) (ts:=ts) j i
   have next:∀ (b:Int) (G4:AHeap),sgn es ls ts j i=b→But bz G3 G4→Own G4 bz 2 (LI (Z.set j (sgSum es ls ts j i+b)))→H1.le G4∧Sl G.length G4 wF 4 1 (LB Fl)∧∃ (t':Nat) (Z:List Int),((t:Int)+1)=t'∧t'≤(ls.getD i []).length∧Z.length=es.length∧Own G4 bz 2 (LI Z)∧∀ j,j<es.length→Z.getD j 0=sgSum es ls ts j i+if (j:Int)∈(ls.getD i []).take t' then sgn es ls ts j i else 0:=by
    intro b G4 hb b4 o5
    refine ⟨b4.le lG3 (by omega),sF.but b4 hbzG,t+1,_,by omega,by omega,by simpa using hZ,o5,fun j' hj'=>?_⟩
    have hmt:∀ x,x∈(ls.getD i []).take (t+1)↔x∈(ls.getD i []).take t∨x=(j:Int):=fun x=>by
     rw [List.take_succ_eq_append_getElem htl,List.mem_append,List.mem_singleton,hj]
    by_cases e:j=j'
    ·subst e
     rw [zao (by omega),if_pos ((hmt _).2 (.inr rfl)),hb]
    ·rw [zam e,hZi j' hj']
     congr 1
     by_cases hm:(j':Int)∈(ls.getD i []).take t
     ·rw [if_pos hm,if_pos ((hmt _).2 (.inl hm))]
     ·rw [if_neg hm,if_neg (fun h=>((hmt _).1 h).elim hm fun h=>e (by omega))]
   unfold F31.B14
   refine zjz sF (by omega) (by simp;omega) (by rw [Int.toNat_natCast];exact zdv (by omega)) (zai ((hc.le l0G3).rd (by omega) (by omega) ?_))
   rw [Int.toNat_natCast,hFt]
   refine zaa (fun hq=>?_) fun hq=>?_
   ·rw [hq,if_pos rfl] at hsg
    unfold F31.B12
    refine (hr.le l0G3).row hil fun q hq=>hq.rd (by omega) (by omega) ?_
    rw [Int.toNat_natCast,hgt]
    refine oi.rd (by omega) (by omega) ?_
    rw [Int.toNat_natCast,hZj,zad (by omega) (by omega)]
    refine zan (by omega) (by omega) (zaO oZ (by simp;omega) rfl fun G4 b4 o5=>?_)
    rw [Int.toNat_natCast,← List.map_set] at o5
    unfold F31.B11
    rw [zad (by omega) (by omega)]
    exact ⟨⟨rfl,rfl,rfl,rfl,rfl,rfl,next 1 G4 hsg b4 o5⟩,by show (ls.getD i []).length-((t:Int)+1).toNat<(ls.getD i []).length-(t:Int).toNat;omega⟩
   ·rw [hq,if_neg (by decide)] at hsg
    unfold F31.B13
    refine (hr.le l0G3).row hil fun q hq=>hq.rd (by omega) (by omega) ?_
    rw [Int.toNat_natCast,hgt]
    refine oi.rd (by omega) (by omega) ?_
    rw [Int.toNat_natCast,hZj,zad (by omega) (by omega)]
    refine zan (by omega) (by omega) (zaO oZ (by simp;omega) rfl fun G4 b4 o5=>?_)
    rw [Int.toNat_natCast,← List.map_set] at o5
    unfold F31.B11
    rw [zad (by omega) (by omega)]
    exact ⟨⟨rfl,rfl,rfl,rfl,rfl,rfl,next (-1) G4 hsg b4 o5⟩,by show (ls.getD i []).length-((t:Int)+1).toNat<(ls.getD i []).length-(t:Int).toNat;omega⟩
  ·have hte:t=(ls.getD i []).length:=by have:=of_decide_eq_false hb;omega
   subst hte
   unfold F31.B9
   rw [zad (by omega) (by omega)]
   refine ⟨⟨rfl,rfl,rfl,rfl,lG3,i+1,Z,by omega,by omega,hZ,oZ,fun j hj=>?_⟩,by show ls.length-((i:Int)+1).toNat<ls.length-(i:Int).toNat;omega⟩
   rw [hZi j hj,List.take_length,ze7]
   congr 1
   unfold sgn
   by_cases hm:(j:Int)∈ls.getD i []
   ·rw [if_pos hm]
   ·rw [if_neg hm,if_neg hm]
 ·have hie:i=ls.length:=by have:=of_decide_eq_false hb;omega
  subst hie
  have oi:=zau (c:=es.length+1) oZ
  rw [hZ] at oi
  unfold F31.B7 F31.L2
  refine ⟨fun x10 x14 G'=>.slice (some ⟨bz,0,none⟩) es.length (es.length+1)=x10∧G=G'∧∃ q:Nat,x14=q∧q≤es.length∧∀ j,j<q→sgSum es ls ts j ls.length=0,fun _ x14 _=>es.length-x14.toNat,⟨rfl,rfl,0,rfl,by omega,fun j hj=>absurd hj (by omega)⟩,?_⟩
  rintro x10 x14 G' ⟨rfl,rfl,q,rfl,hq,hz⟩
  have k:=k G l0G
  unfold F31.B6
  refine zba (zaa (fun hb=>?_) fun hb=>?_)
  ·have hql:q<es.length:=by have:=of_decide_eq_true hb;omega
   unfold F31.B5
   refine oi.rd (by omega) (by omega) ?_
   rw [Int.toNat_natCast,hZi q hql]
   refine zaa (fun hs=>?_) fun hs=>?_
   ·unfold F31.B4
    have:orB es ls ts=false:=by unfold orB;exact @decide_eq_false _ (Classical.propDecidable _) fun hh=>bne_iff_ne.1 hs (hh q hql)
    rw [this] at k;exact k
   ·unfold F31.B3
    rw [zad (by omega) (by omega)]
    refine ⟨⟨rfl,rfl,q+1,by omega,by omega,fun j hj=>?_⟩,by show es.length-((q:Int)+1).toNat<es.length-(q:Int).toNat;omega⟩
    by_cases e:j=q
    ·subst e;exact bne_eq_false_iff_eq.1 hs
    ·exact hz j (by omega)
  ·have hql:q=es.length:=by have:=of_decide_eq_false hb;omega
   subst hql
   unfold F31.B1
   have:orB es ls ts=true:=by unfold orB;exact @decide_eq_true _ (Classical.propDecidable _) hz
   rw [this] at k;exact k
end Go.Proofs
namespace Go.Proofs
open Go.Abs

variable {H G G' Hb H0 G0:AHeap} {v u f w lv:Value} {l m D F ts:List Int} {es:List (Int × Int)} {K:Value→AHeap→Prop} {bs m0:Nat} {n:Int} {ls fs:List (List Int)}

theorem zqJ (hB:Byts H u l) (hl:l.length≤4096) (k:DrwL H K):AC Tryz.prog T0 24 [u] H K:=by
 apply F24.ac
 unfold F24.B10
 refine zaf rfl fun H1 l1 n1 o1=>?_
 unfold F24.B9
 refine zaV (hB.le l1) hl fun G1 g1 s1=>?_
 have hs1:=s1.lt
 have hlt:=o1.lt
 have ob1:=o1.le g1
 unfold F24.B8
 refine zev s1 fun v n es G3 k3 s3 f3 gd hg=>zax (zag (zaf rfl fun G4 l4 n4 o4=>zaG (new:=[.int .i64 n,v]) o4 (by simp) (zaT (zaw f3)) rfl fun G5 b5 o5=>?_))
 have h30:es.length≤30:=by have:=hg.ed.len;have:=hg.ed.hi;omega
 have h3:3≤es.length:=by have:=hg.ed.len;have:=hg.ed.lo;omega
 have n0:=hg.ed.lo;have n20:=hg.ed.hi
 have hgd:Gd2 n es:=gd.two n0 (by omega)
 have hk3:=k3.len
 have l35:G3.le G5:=b5.le l4 (Nat.le_refl _)
 have f3':Sl (H1.length+1) G3 v 66 2 (LE es):=f3.sl.less (by omega)
 have hl35:=l35.1
 have ho5:=o5.lt
 -- the end
 have fin:∀ G y ly,Kb H1.length G5 G→Src H1 H1.length G→Fresh G5.length G y 2 1 (LI ly)→ly.length≤3000→F24.B1 K H.length (.pointer (some ⟨H1.length,0,none⟩)) G3.length y G:=by
  intro G y ly kG sG fy hly
  have oG:=kG.own o5 (by omega)
  unfold F24.B1
  refine zac oG rfl (zab oG rfl (zbj sG (zcW f3' ((Kb.of_le l35).trans kG)) hgd fun v2 n2 es2 G9 k9 s9 h9 _ c9 a0 a1=>zax (zag ?_)))
  have fw9:=zaC fy k9 (by omega)
  refine za1 (K:=fun v G=>K (.tuple ⟨[v,y]⟩) G) ((((k3.trans (.of_le l35)).trans kG).trans k9).own ob1 (by omega)) (AHeap.le_trans l1 s9.1) (Nat.le_refl _) h9 (by omega) fun G' b' lG eG=>?_
  exact k v2 n2 es2 y ly G' lG (eG.less (by omega)) ((fw9.but b' (by omega)).less (by omega)) c9 hly a0 a1
 unfold F24.B7
 refine zac o5 rfl (zab o5 rfl (zgy (f3.le l35).edges hg fun b q G6 c l6 hb oc hc qc=>zaB (zai ?_)))
 have k56:Kb H1.length G5 G6:=.of_le l6
 have hl6:=l6.1
 unfold F24.B6
 refine zav ((s3.le l35).le l6) fun r G7 k7 s7 _ _ _=>zag ?_
 have k57:=k56.trans k7
 have oc7:=k7.own oc (by omega)
 have hk7:=k7.len
 have f7:Fresh G5.length G7 (slV b es.length) 2 1 (LI c):=.inr ⟨b,es.length,hb,rfl,oc7,by simp [hc]⟩
 have dflt:=fin G7 _ c k57 s7 f7 (by omega)
 unfold F24.B5
 refine zaa (fun _=>?_) fun _=>?_
 ·unfold F24.B2
  refine zba (zav s7 fun t G8 k8 s8 t0 t1 _=>zag (zaf rfl fun G9 l9 n9 o9=>?_))
  have ht:=t1 (by omega)
  have hs8:=s8.lt
  refine zbf (l:=[0,1,2,3,-1]) (s8.le l9) (zau (l:=[0,1,2,3,-1]) o9) (by simp) (by simp) (fun x hx=>by simp at hx;omega) (fun G3 k3=>zau (l:=[0,1,2,3,-1]) (k3.own o9 (by omega))) fun r' G10 k10 s10 hr=>zag ?_
  have k710:=(k8.trans (.of_le l9)).trans k10
  have oc10:=k710.own oc7 (by omega)
  refine zan t0 ht (zaO oc10 (by rw [List.length_map];omega) rfl fun G11 b11 o11=>?_)
  rw [← List.map_set] at o11
  exact fin G11 _ (c.set t.toNat r') ((k57.trans k710).but b11 hb) (s10.but b11 (by omega)) (.inr ⟨b,es.length,hb,rfl,o11,by simp [hc]⟩) (by simp;omega)
 ·unfold F24.B4
  refine zaa (fun _=>?_) fun _=>dflt
  unfold F24.B3
  refine f7.sl.pushN zbl (by decide) (by omega) (n:=1) (ys:=[.int .i64 0]) rfl rfl (by simp;omega) (by simp) fun v9 G9 k9 ot nb f9=>?_
  exact fin G9 v9 (c++[0]) (k57.keep k9) (s7.keep k9 (by omega)) (by simpa using f9) (by simp;omega)
def DrwC (H:AHeap) (K:Value→AHeap→Prop):Prop:=∀ v n es w ls G,H.le G→Sl H.length G v 66 2 (LE es)→RowsT H.length G w ls→es.length≤2000→ls.length≤200→(∀ r∈ls,r.length≤3000)→K (.tuple ⟨[.agg ⟨[.int .i64 n,v]⟩,w]⟩) G
theorem zkW (hB:Byts H u l) (hl:l.length≤4096) (k:DrwC H K):AC Tryz.prog T0 35 [u] H K:=by
 apply F35.ac
 unfold F35.B4
 refine zaf rfl fun H1 l1 n1 o1=>?_
 unfold F35.B3
 refine zaV (hB.le l1) hl fun G1 g1 s1=>?_
 have hs1:=s1.lt
 have hlt:=o1.lt
 have ob1:=o1.le g1
 unfold F35.B2
 refine ze6 s1 fun v n es lv ls G3 k3 s3 f3 hg hR c1 c2=>zaB (zax (zag (zaf rfl fun G4 l4 n4 o4=>zaG (new:=[.int .i64 n,v]) o4 (by simp) (zaT (zaw f3)) rfl fun G5 b5 o5=>?_)))
 have h30:es.length≤30:=by have:=hg.ed.len;have:=hg.ed.hi;omega
 have n0:=hg.ed.lo;have n20:=hg.ed.hi
 have hgd:Gd2 n es:=⟨by have:=hg.ed.len;omega,by omega,fun e he=>by have:=hg.ed.ends e he;omega,n0,by omega⟩
 have hk3:=k3.len
 have l35:G3.le G5:=b5.le l4 (Nat.le_refl _)
 have f5:Sl (H1.length+1) G5 v 66 2 (LE es):=(f3.le l35).sl.less (by omega)
 unfold F35.B1
 refine zac o5 rfl (zab o5 rfl (zbj (s3.le l35) f5 hgd fun v2 n2 es2 G9 k9 s9 h9 _ c9 a0 a1=>zax (zag ?_)))
 have hR9:=(hR.le l35).kb k9 (by omega)
 refine za1 (K:=fun v G=>K (.tuple ⟨[v,lv]⟩) G) (((k3.trans (.of_le l35)).trans k9).own ob1 (by omega)) (AHeap.le_trans l1 s9.1) (Nat.le_refl _) h9 (by omega) fun G' b' lG eG=>?_
 exact k v2 n2 es2 lv ls G' lG (eG.less (by omega)) ((hR9.but b' (by omega)).less (by omega)) c9 c1 c2
theorem zke {m:Nat}:∀ {ls:List (List Int)},(∀ r∈ls,r.length≤m)→totL ls≤ls.length*m
 | [],_=>by simp [totL]
 | r::ls,h=>by
  have h1:=h r (by simp)
  have h2:=zke (ls:=ls) fun x hx=>h x (by simp [hx])
  have e:totL (r::ls)=r.length+totL ls:=by simp [totL]
  rw [e,List.length_cons,Nat.add_mul];omega
def DrwT (H:AHeap) (K:Value→AHeap→Prop):Prop:=∀ v n es w ls x ts G,H.le G→Sl H.length G v 66 2 (LE es)→RowsT H.length G w ls→Fresh H.length G x 2 1 (LI ts)→es.length≤2000→ls.length≤200→(∀ r∈ls,r.length≤3000)→ts.length≤300→K (.tuple ⟨[.agg ⟨[.int .i64 n,v]⟩,w,x]⟩) G
theorem zit (hB:Byts H u l) (hl:l.length≤4096) (k:DrwT H K):AC Tryz.prog T0 29 [u] H K:=by
 apply F29.ac
 unfold F29.B30
 refine zaf rfl fun H1 l1 n1 o1=>?_
 unfold F29.B29
 refine zaV (hB.le l1) hl fun G1 g1 s1=>?_
 have hs1:=s1.lt
 have hlt:=o1.lt
 have ob1:=o1.le g1
 unfold F29.B28
 refine ze6 s1 fun v n es lv ls G3 k3 s3 f3 hg hR c1 c2=>zaB (zax (zag (zaf rfl fun G4 l4 n4 o4=>zaG (new:=[.int .i64 n,v]) o4 (by simp) (zaT (zaw f3)) rfl fun G5 b5 o5=>?_)))
 have h30:es.length≤30:=by have:=hg.ed.len;have:=hg.ed.hi;omega
 have n0:=hg.ed.lo;have n20:=hg.ed.hi
 have hgd:Gd2 n es:=⟨by have:=hg.ed.len;omega,by omega,fun e he=>by have:=hg.ed.ends e he;omega,n0,by omega⟩
 have hk3:=k3.len
 have l35:G3.le G5:=b5.le l4 (Nat.le_refl _)
 have f5:Sl (H1.length+1) G5 v 66 2 (LE es):=(f3.le l35).sl.less (by omega)
 have hR5:=hR.le l35
 have hl35:=l35.1
 have ho5:=o5.lt
 have htot:=zke c2
 have htot2:ls.length*3000≤200*3000:=Nat.mul_le_mul_right _ c1
 have rows:∀ {G},Kb H1.length G5 G→RowsR G lv ls:=fun kG=>(hR5.kb kG (by omega)).toR
 have edg:∀ {G},Kb H1.length G5 G→Edges G v es:=fun kG=>zbg (zcW f5 kG)
 -- the end
 have fin1:∀ G y ly,Kb H1.length G5 G→Src H1 H1.length G→Fresh G5.length G y 2 1 (LI ly)→ly.length≤300→F29.B1 K H.length (.pointer (some ⟨H1.length,0,none⟩)) G3.length lv y G:=by
  intro G y ly kG sG fy hly
  have oG:=kG.own o5 (by omega)
  unfold F29.B1
  refine zac oG rfl (zab oG rfl (zbj sG (zcW f5 kG) hgd fun v2 n2 es2 G9 k9 s9 h9 _ c9 a0 a1=>zax (zag ?_)))
  have fw9:=zaC fy k9 (by omega)
  have hR9:=(hR5.kb kG (by omega)).kb k9 (by omega)
  refine za1 (K:=fun v G=>K (.tuple ⟨[v,lv,y]⟩) G) ((((k3.trans (.of_le l35)).trans kG).trans k9).own ob1 (by omega)) (AHeap.le_trans l1 s9.1) (Nat.le_refl _) h9 (by omega) fun G' b' lG eG=>?_
  exact k v2 n2 es2 lv ls y ly G' lG (eG.less (by omega)) ((hR9.but b' (by omega)).less (by omega)) ((fw9.but b' (by omega)).less (by omega)) c9 c1 c2 hly
 have fin:∀ G y ly,Kb H1.length G5 G→Src H1 H1.length G→Fresh G5.length G y 2 1 (LI ly)→ly.length≤200→F29.B7 K H.length (.pointer (some ⟨H1.length,0,none⟩)) G3.length lv y G:=by
  intro G y ly kG sG fy hly
  unfold F29.B7
  refine zav sG fun r G7 k7 s7 _ _ _=>zag ?_
  have f7:=zaC fy k7 (by omega)
  have k57:=kG.trans k7
  have hk57:=k57.len
  have dflt:=fin1 G7 y ly k57 s7 f7 (by omega)
  unfold F29.B6
  refine zaa (fun _=>?_) fun _=>?_
  ·unfold F29.B2
   refine f7.sl.pushN zbl (by decide) hk57 (n:=1) (ys:=[.int .i64 0]) rfl rfl (by simp;omega) (by simp) fun v9 G9 k9 ot nb f9=>?_
   exact fin1 G9 v9 (ly++[0]) (k57.keep k9) (s7.keep k9 (by omega)) (by simpa using f9) (by simp;omega)
  ·unfold F29.B5
   refine zaa (fun _=>?_) fun _=>dflt
   unfold F29.B4
   refine f7.ints.len (zaa (fun hb=>?_) fun _=>dflt)
   have hpos:0<ly.length:=by have:=of_decide_eq_true hb;omega
   unfold F29.B3
   refine zaf rfl fun G8 l8 n8 o8=>?_
   have hs7:=s7.lt
   refine zbf (l:=[2,-1]) (s7.le l8) (zau (l:=[2,-1]) o8) (by simp) (by simp) (fun x hx=>by simp at hx;omega) (fun G3 k3=>zau (l:=[2,-1]) (k3.own o8 (by omega))) fun r' G9 k9 s9 hr=>zag ?_
   have k79:=(Kb.of_le l8).trans k9
   have f9:=zaC f7 k79 (by omega)
   rcases f9 with ⟨e0,_⟩|⟨b,c,hb,rfl,ob,hcl⟩
   ·have:=congrArg List.length e0
    rw [List.length_map,List.length_nil] at this;omega
   rw [List.length_map,Nat.mul_one] at hcl
   subst hcl
   refine zan (by omega) (by omega) (zaO ob (by rw [List.length_map];simp;omega) rfl fun G10 b10 o10=>?_)
   have ho10:Own G10 b 2 (LI (ly.set 0 r')):=by simpa using o10
   exact fin1 G10 _ (ly.set 0 r') ((k57.trans k79).but b10 hb) (s9.but b10 (by omega)) (.inr ⟨b,_,hb,rfl,ho10,by simp⟩) (by simp;omega)
 unfold F29.B27
 refine zaf rfl fun G6 l6 n6 o6=>?_
 unfold F29.B26 F29.L22
 refine ⟨fun x2 x5 x6 x7 x8 x9 G=>H.length=x2∧.pointer (some ⟨H1.length,0,none⟩)=x5∧G3.length=x6∧lv=x7∧Kb H1.length G5 G∧Src H1 H1.length G∧∃ (i:Nat) (R:List Int),x9=i∧i≤ls.length∧R.length=i∧Fresh G5.length G x8 2 1 (LI R),fun _ _ _ _ _ x9 _=>ls.length-x9.toNat,
  ⟨rfl,rfl,rfl,rfl,.of_le l6,(s3.le l35).le l6,0,[],rfl,by omega,rfl,.inr ⟨_,0,Nat.le_refl _,rfl,o6,rfl⟩⟩,?_⟩
 rintro x2 x5 x6 x7 x8 x9 G ⟨rfl,rfl,rfl,rfl,kG,sG,i,R,rfl,hi,hRl,f8⟩
 have hkG:=kG.len
 unfold F29.B25
 refine (hR5.kb kG (by omega)).len (zaa (fun hb=>?_) fun hb=>?_)
 ·have hlt:=of_decide_eq_true hb
  unfold F29.B24
  refine zav sG fun r G7 k7 s7 r0 r1 _=>zag ?_
  have f7:=zaC f8 k7 (by omega)
  have hk7:=k7.len
  refine f7.sl.pushN zbl (by decide) (by omega) (n:=1) (ys:=[.int .i64 r]) rfl rfl (by simp;omega) (by simp) fun v9 G9 k9 ot nb f9=>?_
  unfold F29.B23
  rw [zad (by omega) (by omega)]
  exact ⟨⟨rfl,rfl,rfl,rfl,(kG.trans k7).keep k9,s7.keep k9 (by omega),i+1,R++[r],by omega,by omega,by simp [hRl],by simpa using f9⟩,by show ls.length-((i:Int)+1).toNat<ls.length-(i:Int).toNat;omega⟩
 ·have hie:i=ls.length:=by have:=of_decide_eq_false hb;omega
  unfold F29.B21
  refine zav sG fun r G7 k7 s7 r0 r1 _=>zag ?_
  have f7:=zaC f8 k7 (by omega)
  have k57:=kG.trans k7
  refine zaa (fun _=>?_) fun _=>fin G7 x8 R k57 s7 f7 (by omega)
  refine (rows k57).len (zaa (fun h9=>?_) fun _=>fin G7 x8 R k57 s7 f7 (by omega))
  have h9:ls.length<9:=by have:=of_decide_eq_true h9;omega
  have o7:=k57.own o5 (by omega)
  refine zac o7 rfl (zab o7 rfl (zfQ (edg k57) (by omega) (rows k57) (by omega) (fun r hr=>by have:=c2 r hr;omega) fun G8 l8=>zag ?_))
  have k58:=k57.trans (.of_le l8)
  have s8:=s7.le l8
  have f88:=f7.le l8
  rw [if_pos hg]
  by_cases hS:SetsB es ls
  rotate_left
  ·rw [if_neg hS]
   exact zaz rfl (fin G8 x8 R k58 s8 f88 (by omega))
  rw [if_pos hS]
  refine zay rfl (zac (o7.le l8) rfl (zab (o7.le l8) rfl (zeU (edg k58) hg (rows k58) (by omega) (by omega) hS fun G9 l9=>zai (zaa (fun _=>?_) fun _=>fin G9 x8 R (k58.trans (.of_le l9)) (s8.le l9) (f88.le l9) (by omega)))))
  have k59:=k58.trans (.of_le l9)
  unfold F29.B20 F29.L8
  refine ⟨fun x2 x5 x6 x7 y8 x10 G=>H.length=x2∧.pointer (some ⟨H1.length,0,none⟩)=x5∧G3.length=x6∧lv=x7∧x8=y8∧Kb H1.length G5 G∧Src H1 H1.length G∧Fresh G5.length G x8 2 1 (LI R)∧∃ s:Nat,x10=s∧s≤2^ls.length,fun _ _ _ _ _ x10 _=>2^ls.length-x10.toNat,
   ⟨rfl,rfl,rfl,rfl,rfl,k59,s8.le l9,f88.le l9,0,rfl,Nat.zero_le _⟩,?_⟩
  rintro x2 x5 x6 x7 y8 x10 G10 ⟨rfl,rfl,rfl,rfl,rfl,k10,s10,f10,s,rfl,hs⟩
  have hpow:2^ls.length≤2^9:=zpj (by omega)
  have e1:IntKind.u64.wrap (ls.length:Int)=(ls.length:Int):=zbh (by omega)
  have e2:IntKind.i64.wrap (1*2^(min (Int.toNat (ls.length:Int)) 64))=((2^ls.length:Nat):Int):=by
   rw [Int.toNat_natCast];exact zpF (by omega)
  have hk10:=k10.len
  unfold F29.B19
  refine (rows k10).len ?_
  rw [e1,e2]
  refine ⟨by omega,zaa (fun hb=>?_) fun _=>fin G10 x8 R k10 s10 f10 (by omega)⟩
  have hlt:s<2^ls.length:=by have:=of_decide_eq_true hb;omega
  unfold F29.B18
  refine zaf rfl fun G11 l11 n11 o11=>?_
  unfold F29.B17 F29.L13
  refine ⟨fun x2 x5 x6 x7 y8 x10 x11 x12 G=>H.length=x2∧.pointer (some ⟨H1.length,0,none⟩)=x5∧G3.length=x6∧lv=x7∧x8=y8∧(s:Int)=x10∧Kb H1.length G10 G∧Src H1 H1.length G∧∃ (t:Nat) (Q:List Int),x12=t∧t≤ls.length∧Q.length=t∧Fresh G10.length G x11 2 1 (LI Q),fun _ _ _ _ _ _ _ x12 _=>ls.length-x12.toNat,
   ⟨rfl,rfl,rfl,rfl,rfl,rfl,.of_le l11,s10.le l11,0,[],rfl,by omega,rfl,.inr ⟨_,0,Nat.le_refl _,rfl,o11,rfl⟩⟩,?_⟩
  rintro x2 x5 x6 x7 y8 x10 x11 x12 G12 ⟨rfl,rfl,rfl,rfl,rfl,rfl,k12,s12,t,Q,rfl,ht,hQ,f12⟩
  have k512:=k10.trans k12
  have hk12:=k12.len
  unfold F29.B16
  refine (rows k512).len (zaa (fun hb=>?_) fun hb=>?_)
  ·have htl:t<ls.length:=by have:=of_decide_eq_true hb;omega
   unfold F29.B15
   rw [zbh (show t<2^64 by omega)]
   refine ⟨by omega,f12.sl.pushN zbl (by decide) hk12 (n:=1) rfl rfl (by simp;omega) (by simp) fun v14 G14 k14 _ _ f14=>?_⟩
   unfold F29.B14
   rw [zad (x:=(t:Int)+1) (by omega) (by omega)]
   exact ⟨⟨rfl,rfl,rfl,rfl,rfl,rfl,k12.keep k14,s12.keep k14 (by omega),t+1,Q++[_],by omega,by omega,by simp [hQ],by rw [show ∀ (A:List Int) (x:Int),LI (A++[x])=LI A++[.int .i64 x] from fun A x=>by simp];exact f14⟩,by show ls.length-((t:Int)+1).toNat<ls.length-(t:Int).toNat;omega⟩
  ·unfold F29.B12
   have o12:=k512.own o5 (by omega)
   refine zac o12 rfl (zab o12 rfl (zmq (edg k512) (by omega) (rows k512) (by omega) f12.ints (by omega) fun G15 l15=>zaB (zai (zag ?_))))
   have k515:=k512.trans (.of_le l15)
   unfold F29.B11
   refine zaa (fun _=>?_) fun _=>?_
   ·unfold F29.B10
    exact fin G15 x11 Q k515 (s12.le l15) ((f12.le l15).less (by omega)) (by omega)
   ·unfold F29.B9
    rw [zad (by omega) (by omega)]
    refine ⟨⟨rfl,rfl,rfl,rfl,rfl,k515,s12.le l15,(zaC f10 k12 (by omega)).le l15,s+1,by omega,hlt⟩,?_⟩
    show 2^ls.length-((s:Int)+1).toNat<2^ls.length-(s:Int).toNat
    generalize 2^ls.length=q at hlt ⊢
    omega
end Go.Proofs
namespace Go.Proofs
open Go.Abs

variable {H:AHeap} {v u f:Value} {l m:List Int} {es fs:List (Int × Int)} {K:Value→AHeap→Prop}

end Go.Proofs
namespace Go.Proofs
open Go.Abs

variable {es:List (Int × Int)} {p q:Nat→Bool} {n:Int} {e:Nat} {S l a b:List Int}

theorem ze5 {j:Nat}:bitB (compL es p e) j=true↔j<es.length∧Rch (eAdj es p) e j:=by
 have hS:IsS (compL es p e) es.length:=zc2 (zaL _ _) fun y hy=>by obtain ⟨q,rfl,h1,_⟩:=zar.1 hy;omega
 rw [zaD hS,zaU]
 exact ⟨fun ⟨q,h1,h2,h3⟩=>by
  obtain rfl:j=q:=by omega
  exact ⟨h2,h3⟩,fun ⟨h1,h2⟩=>⟨j,rfl,h1,h2⟩⟩
theorem zqg (hp:EvenS n es p) (he:e<es.length) (hpe:p e=true) (hl:cLeadB es p e=true):CyP n es e (compL es p e):=by
 have hin:∀ {j},Rch (eAdj es p) e j→j<es.length∧p j=true:=fun h=>zcd h ⟨he,hpe⟩
 refine ⟨zc2 (zaL _ _) fun y hy=>by obtain ⟨q,rfl,h1,_⟩:=zar.1 hy;omega,fun w hw=>?_,zaU.2 ⟨e,rfl,he,.refl⟩,fun i hi=>?_,fun j hj=>?_⟩
 ·by_cases hz:degB es (bitB (compL es p e)) w=0
  ·rw [hz]
  ·obtain ⟨i,h1,h2,h3⟩:=zgH (Nat.pos_of_ne_zero hz)
   have hi:=(ze5.1 h2).2
   have:degB es (bitB (compL es p e)) w=degB es p w:=by
    rw [za6,za6]
    refine za4 fun j hj=>?_
    rw [Bool.eq_iff_iff,Bool.and_eq_true,Bool.and_eq_true]
    constructor
    ·rintro ⟨g1,g2⟩
     exact ⟨g1,(hin (ze5.1 g2).2).2⟩
    ·rintro ⟨g1,g2⟩
     exact ⟨g1,ze5.2 ⟨hj,.step hi ⟨hj,g2,_,h3,g1⟩⟩⟩
   rw [this];exact hp w hw
 ·obtain ⟨j,rfl,hj,hr⟩:=zaU.1 hi
  have:¬ j<e:=fun h=>zaK.1 hl j h (hin hr).2 (zch hr ⟨he,hpe⟩)
  omega
 ·have hr:=(ze5.1 hj).2
  clear hj
  induction hr with
  | refl=>exact .refl
  | step h1 h2 ih=>exact .step ih ⟨h2.1,ze5.2 ⟨h2.1,.step h1 h2⟩,h2.2.2⟩
theorem zkN (hp:EvenS n es p) (he:e<es.length) (hpe:p e=true) (hl:cLeadB es p e=true):IsS (compL es p e) es.length∧cycB n es (compL es p e)=true:=
 ⟨(zqg hp he hpe hl).s,zxr (zqg hp he hpe hl)⟩
theorem zr4 (hS:IsS S es.length) (hp:EvenS n es (bitB S)) {c:List Int} (hc:c∈cycOf es (bitB S) S):IsS c es.length∧cycB n es c=true:=by
 unfold cycOf at hc
 obtain ⟨x,hx,rfl⟩:=List.mem_map.1 hc
 rw [List.mem_filter] at hx
 have hr:=hS.range x hx.1
 obtain ⟨j,rfl⟩:∃ j:Nat,x=j:=⟨x.toNat,by omega⟩
 rw [Int.toNat_natCast] at hx ⊢
 exact zkN hp (by omega) ((zaD hS j).2 hx.1) hx.2
def uni (cs:List (List Int)) (m:Nat):List Int:=filtB (fun j=>decide (∃ c∈cs,(j:Int)∈c)) m
theorem zg5 {cs:List (List Int)} {m j:Nat}:(j:Int)∈uni cs m↔j<m∧∃ c∈cs,(j:Int)∈c:=by
 unfold uni
 rw [zar]
 exact ⟨fun ⟨q,h1,h2,h3⟩=>by
  obtain rfl:j=q:=by omega
  exact ⟨h2,of_decide_eq_true h3⟩,fun ⟨h1,h2⟩=>⟨j,rfl,h1,decide_eq_true h2⟩⟩
theorem zyo (hS:IsS S es.length):uni (cycOf es (bitB S) S) es.length=S:=by
 refine Asc.ext (zaL _ _) hS.asc fun x=>?_
 constructor
 ·intro hx
  obtain ⟨j,rfl,hj,_⟩:=zar.1 hx
  obtain ⟨_,c,hc,hm⟩:=zg5.1 hx
  unfold cycOf at hc
  obtain ⟨y,hy,rfl⟩:=List.mem_map.1 hc
  rw [List.mem_filter] at hy
  have hr:=hS.range y hy.1
  obtain ⟨i,h1,h2,h3⟩:=zaU.1 hm
  obtain rfl:j=i:=by omega
  have:=(zcd h3 ⟨by omega,(zaD hS _).2 (by rw [Int.toNat_of_nonneg hr.1];exact hy.1)⟩).2
  exact (zaD hS j).1 this
 ·intro hx
  have hr:=hS.range x hx
  obtain ⟨j,rfl⟩:∃ j:Nat,x=j:=⟨x.toNat,by omega⟩
  have hpj:=(zaD hS j).2 hx
  refine zg5.2 ⟨by omega,?_⟩
  have:∃ i,i<es.length∧bitB S i=true∧cLeadB es (bitB S) i=true∧Rch (eAdj es (bitB S)) i j:=by
   by_cases h:cLead es (bitB S) j
   ·exact ⟨j,by omega,hpj,zaK.2 h,.refl⟩
   ·obtain ⟨i,h1,h2,h3,h4⟩:=zgK hpj h
    exact ⟨i,by omega,h2,zaK.2 h3,h4⟩
  obtain ⟨i,h1,h2,h3,h4⟩:=this
  refine ⟨compL es (bitB S) i,?_,zaU.2 ⟨j,rfl,by omega,h4⟩⟩
  unfold cycOf
  exact List.mem_map.2 ⟨(i:Int),List.mem_filter.2 ⟨(zaD hS i).1 h2,by rw [Int.toNat_natCast];exact h3⟩,by rw [Int.toNat_natCast]⟩
theorem zrm (hS:IsS S es.length) {i t:Nat} (hi:i<t) (ht:t<(cycOf es (bitB S) S).length):∀ x∈(cycOf es (bitB S) S).getD t [],x∉(cycOf es (bitB S) S).getD i []:=by
 obtain ⟨F,hF⟩:∃ F,F=S.filter fun x=>cLeadB es (bitB S) x.toNat:=⟨_,rfl⟩
 have hc:cycOf es (bitB S) S=F.map fun x=>compL es (bitB S) x.toNat:=by rw [hF];rfl
 have hFl:t<F.length:=by rw [hc,List.length_map] at ht;exact ht
 have hasc:Asc F:=by rw [hF];exact hS.asc.filter _
 have hget:∀ q (hq:q<F.length),(cycOf es (bitB S) S).getD q []=compL es (bitB S) (F[q]).toNat:=fun q hq=>by
  rw [hc,zae (by simpa using hq),List.getElem_map]
 have hm:∀ q (hq:q<F.length),∃ j:Nat,F[q]=(j:Int)∧j<es.length∧bitB S j=true∧cLeadB es (bitB S) j=true:=fun q hq=>by
  have hmem:∀ x∈F,x∈S∧cLeadB es (bitB S) x.toNat=true:=fun x hx=>by rw [hF] at hx;exact List.mem_filter.1 hx
  obtain ⟨h1,h2⟩:=hmem _ (List.getElem_mem hq)
  have hr:=hS.range _ h1
  exact ⟨(F[q]).toNat,by omega,by omega,(zaD hS _).2 (by rw [Int.toNat_of_nonneg hr.1];exact h1),h2⟩
 intro x hx hx2
 rw [hget t hFl] at hx
 rw [hget i (by omega)] at hx2
 obtain ⟨u,hu1,hu2,hu3,hu4⟩:=hm t hFl
 obtain ⟨w,hw1,hw2,hw3,hw4⟩:=hm i (by omega)
 rw [hu1,Int.toNat_natCast] at hx
 rw [hw1,Int.toNat_natCast] at hx2
 obtain ⟨y,rfl,_,hr1⟩:=zaU.1 hx
 obtain ⟨y',e',_,hr2⟩:=zaU.1 hx2
 obtain rfl:y=y':=by omega
 have hlt:F[i]<F[t]:=by
  unfold Asc at hasc
  rw [List.pairwise_iff_getElem] at hasc
  exact hasc i t (by omega) hFl hi
 exact zaK.1 hu4 w (by omega) hw3 (hr2.trans (zch hr1 ⟨hu2,hu3⟩))
end Go.Proofs
namespace Go.Proofs
open Go.Abs

variable {l m c S:List Int} {es:List (Int × Int)} {n:Int} {ls cs:List (List Int)}

theorem zpS {j:Nat}:∀ (l:List Int) (cs:List Int),j<cs.length→(∀ x∈l,0≤x)→(l.foldl bump1 cs).getD j 0=cs.getD j 0+(l.count (j:Int):Nat)
 | [],cs,_,_=>by simp
 | x::l,cs,hj,h=>by
  rw [List.foldl_cons,zpS l (bump1 cs x) (by rw [zaP];exact hj) fun y hy=>h y (by simp [hy]),zdk _ _ hj (h x (by simp)),List.count_cons]
  by_cases e:x=(j:Int)
  ·rw [if_pos e,if_pos (by simpa using e)];omega
  ·rw [if_neg e,if_neg (by simpa using e)];omega
theorem zuH {N j:Nat} (hj:j<N) (h:∀ x∈l,0≤x):(cntL N l).getD j 0=(l.count (j:Int):Nat):=by
 unfold cntL
 rw [zpS l _ (by simpa using hj) h]
 simp [List.getD,hj]
theorem ziN {j:Int}:∀ {cs:List (List Int)},(∀ r∈cs,r.Nodup)→cs.Pairwise (fun a b=>∀ x∈b,x∉a)→cs.flatten.count j=if ∃ r∈cs,j∈r then 1 else 0
 | [],_,_=>by simp
 | r::cs,hn,hp=>by
  rw [List.pairwise_cons] at hp
  have ih:=ziN (j:=j) (fun x hx=>hn x (by simp [hx])) hp.2
  rw [List.flatten_cons,List.count_append,ih]
  by_cases hr:j∈r
  ·have h0:¬ ∃ r∈cs,j∈r:=fun ⟨s,hs,hj⟩=>hp.1 s hs j hj hr
   rw [if_neg h0,if_pos ⟨r,by simp,hr⟩,(hn r (by simp)).count,if_pos hr]
  ·rw [List.count_eq_zero_of_not_mem hr,Nat.zero_add]
   congr 1
   apply propext
   constructor
   ·rintro ⟨s,hs,hj⟩;exact ⟨s,by simp [hs],hj⟩
   ·rintro ⟨s,hs,hj⟩
    rcases List.mem_cons.1 hs with rfl|hs
    ·exact absurd hj hr
    ·exact ⟨s,hs,hj⟩
theorem zun (hS:IsS S es.length) {j:Nat} (hj:j<es.length):(cycOf es (bitB S) S).flatten.count (j:Int)=if (j:Int)∈S then 1 else 0:=by
 have e1:∀ r∈cycOf es (bitB S) S,r.Nodup:=fun r hr=>by
  unfold cycOf at hr
  obtain ⟨x,_,rfl⟩:=List.mem_map.1 hr
  exact zcs _ _
 rw [ziN e1 ?_]
 ·have h:=zyo hS
  have h2:(j:Int)∈uni (cycOf es (bitB S) S) es.length↔(j:Int)∈S:=by rw [h]
  rw [zg5] at h2
  by_cases hm:(j:Int)∈S
  ·rw [if_pos hm,if_pos (h2.2 hm).2]
  ·rw [if_neg hm,if_neg fun h3=>hm (h2.1 ⟨hj,h3⟩)]
 ·rw [List.pairwise_iff_getElem]
  intro a b ha hb hab x hx hx2
  refine zrm hS hab hb x ?_ ?_
  ·rw [zae hb];exact hx
  ·rw [zae ha];exact hx2
theorem zl3 {x:Int} {j:Nat} (hj:j<es.length):bitB (noCol es c x) j=(true ^^ (c.getD j 0==x)):=by
 rw [Bool.eq_iff_iff,zaD (zdW es c x)]
 unfold noCol
 rw [zar]
 constructor
 ·rintro ⟨i,hi,_,h⟩
  obtain rfl:j=i:=by omega
  simpa using h
 ·intro h
  exact ⟨j,rfl,hj,by simpa using h⟩
theorem zqz (hg:IsG n es) (hc:IsC es c) {x:Int} (hx:0≤x∧x≤2):EvenS n es (bitB (noCol es c x)):=by
 intro w hw
 rw [zdr fun j hj=>zl3 hj,ze2 (fun _=>true) (fun j=>c.getD j 0==x),zur,hg.three (by omega) hw,zis hg hc hw hx]
theorem zo3 (hg:IsG n es) (hc:IsC es c) (hl:l∈covTo es c 3):IsS l es.length∧cycB n es l=true:=by
 have key:∀ k,k≤3→l∈covTo es c k→IsS l es.length∧cycB n es l=true:=by
  intro k
  induction k with
  | zero=>intro _ h;cases h
  | succ k ih=>
   intro hk h
   rcases List.mem_append.1 h with h|h
   ·exact ih (by omega) h
   ·exact zr4 (zdW es c _) (zqz hg hc ⟨by omega,by omega⟩) h
 exact key 3 (Nat.le_refl _) hl
theorem zsq (hc:IsC es c) {j:Nat} (hj:j<es.length):(covTo es c 3).flatten.count (j:Int)=2:=by
 have h:∀ x:Int,(cycNo es c x).flatten.count (j:Int)=if c.getD j 0=x then 0 else 1:=fun x=>by
  unfold cycNo
  rw [zun (zdW es c x) hj]
  have hm:(j:Int)∈noCol es c x↔¬ c.getD j 0=x:=by
   rw [← zaD (zdW es c x),zl3 hj];simp
  by_cases e:c.getD j 0=x
  ·rw [if_pos e,if_neg fun h=>hm.1 h e]
  ·rw [if_neg e,if_pos (hm.2 e)]
 have hr:=hc.get j
 show ((([]++cycNo es c (2-(0:Nat)))++cycNo es c (2-(1:Nat)))++cycNo es c (2-(2:Nat))).flatten.count (j:Int)=2
 rw [List.nil_append,List.flatten_append,List.flatten_append,List.count_append,List.count_append,h,h,h]
 have:c.getD j 0=0∨c.getD j 0=1∨c.getD j 0=2:=by omega
 rcases this with e|e|e <;> rw [e] <;> decide
theorem zqW (h:covCode n es c=0):IsC es c∧dcCode n es (covList n es c)=0∧dcB n es (covList n es c)=true:=by
 obtain ⟨hg,hc⟩:=zeT h
 have e:covList n es c=covTo es c 3:=by unfold covList;rw [if_pos h]
 have h0:dcCode n es (covTo es c 3)=0:=by
  unfold dcCode
  rw [if_pos hg,if_pos (show SetsB es (covTo es c 3) from fun l hl=>(zo3 hg hc hl).1)]
 rw [e]
 refine ⟨hc,h0,?_⟩
 unfold dcB dblB
 rw [if_pos h0,Bool.and_eq_true,List.all_eq_true,List.all_eq_true]
 refine ⟨fun l hl=>(zo3 hg hc hl).2,fun x hx=>?_⟩
 obtain ⟨j,hj,rfl⟩:=List.getElem_of_mem hx
 have hj':=hj
 rw [zaQ] at hj'
 rw [← zae (d:=0) hj,zuH hj' fun x hx=>?_,zsq hc hj']
 ·rfl
 ·obtain ⟨r,hr,hx⟩:=List.mem_flatten.1 hx
  exact ((zo3 hg hc hr).1.range x hx).1
end Go.Proofs
namespace Go.Proofs
open Go.Abs

variable {H G:AHeap} {v u w f:Value} {l m c ts:List Int} {es fs:List (Int × Int)} {K:Value→AHeap→Prop} {p:Nat→Bool} {e:Nat} {n:Int} {ls:List (List Int)} {D:List (Nat × Bool)}

theorem zkP (hg:IsG n es) (hs:IsS l es.length) (hE:EvenS n es (bitB l)) (h1:(cycOf es (bitB l) l).length=1) (j:Nat) (b:Bool):(j,b)∈dirsOf es l↔(j:Int)∈l∧b=!fwB es l j:=by
 obtain ⟨e,⟨r,hlr⟩,he,hpe,hiff,hlow⟩:=zh2 hs h1
 have h2:=zjk hg hE
 have hl0:l.getD 0 0=(e:Int):=by rw [hlr];rfl
 have hd:dirsOf es l=dirL es (bitB l) e (compL es (bitB l) e).length:=by unfold dirsOf;rw [hl0,Int.toNat_natCast]
 have key:∀ t,t<(compL es (bitB l) e).length→fwB es l (wk es (bitB l) e t).1=!(dirT es (bitB l) e t).2:=fun t ht=>by
  rw [Bool.eq_iff_iff,zsb,hd,zAa hg h2 he hpe ht,Bool.not_eq_true']
 rw [hd,zkG]
 constructor
 ·rintro ⟨t,ht,hdt⟩
  have hj:(wk es (bitB l) e t).1=j:=by rw [← zdD,hdt]
  have hW:=zbA hg h2 he hpe t (by omega)
  refine ⟨(zaD hs j).1 (by rw [← hj];exact hW.pn),?_⟩
  rw [← hj,key t ht,hdt,Bool.not_not]
 ·rintro ⟨hj,rfl⟩
  obtain ⟨t,ht,hw⟩:=zvr hg h2 he hpe ((hiff j).1 ((zaD hs j).2 hj)).2
  refine ⟨t,ht,Prod.ext (by rw [zdD];exact hw) ?_⟩
  rw [← hw,key t ht,Bool.not_not]
def SeenD (es:List (Int × Int)) (ls:List (List Int)) (ts:List Int) (i:Nat) (D:List (Nat × Bool)):Prop:=D.Nodup∧∀ d,d∈D↔∃ i',i'<i∧∃ b,(d.1,b)∈dirsOf es (ls.getD i' [])∧d.2=(b != (ts.getD i' 0==1))
theorem zy3 (hg:IsG n es) (hS:SetsB es ls) (hT:TurnsOk ls ts) (hdb:dblB n es ls=true) (h:SeenD es ls ts ls.length D):decide (D.length=2*es.length)=orB es ls ts:=by
 obtain ⟨hn,hm⟩:=h
 have hrow:∀ i,i<ls.length→ls.getD i []∈ls:=fun i hi=>by rw [zae hi];exact List.getElem_mem hi
 have hD:∀ (j:Nat) (b:Bool),(j,b)∈D↔∃ i,i<ls.length∧(j:Int)∈ls.getD i []∧b=((!fwB es (ls.getD i []) j) != (ts.getD i 0==1)):=fun j b=>by
  rw [hm]
  constructor
  ·rintro ⟨i,hi,b0,h1,h2⟩
   obtain ⟨hE,hc⟩:=zk1 hdb (hrow i hi)
   obtain ⟨h3,h4⟩:=(zkP hg (hS _ (hrow i hi)) hE hc _ _).1 h1
   exact ⟨i,hi,h3,by rw [← h4];exact h2⟩
  ·rintro ⟨i,hi,h1,h2⟩
   obtain ⟨hE,hc⟩:=zk1 hdb (hrow i hi)
   exact ⟨i,hi,_,(zkP hg (hS _ (hrow i hi)) hE hc _ _).2 ⟨h1,rfl⟩,h2⟩
 have hr:∀ d∈D,d.1<es.length:=fun d hd=>by
  obtain ⟨i,hi,h1,_⟩:=(hD d.1 d.2).1 hd
  have:=(hS _ (hrow i hi)).range _ h1;omega
 have hsgn:∀ (j i:Nat),i<ls.length→(j:Int)∈ls.getD i []→sgn es ls ts j i=if ((!fwB es (ls.getD i []) j) != (ts.getD i 0==1))=false then 1 else -1:=fun j i hi hj=>by
  have ht:=hT.2 i (by rw [hT.1];exact hi)
  unfold sgn
  rw [if_pos hj]
  rcases (by omega:ts.getD i 0=0∨ts.getD i 0=1) with e|e <;> rw [e] <;> cases fwB es (ls.getD i []) j <;> rfl
 have hcnt:∀ j,j<es.length→((List.range ls.length).filter fun i=>sgn es ls ts j i != 0).length=2:=fun j hj=>by
  have h2:(cntL es.length ls.flatten).getD j 0=2:=by
   unfold dblB at hdb
   rw [Bool.and_eq_true,List.all_eq_true,List.all_eq_true] at hdb
   have hjl:j<(cntL es.length ls.flatten).length:=by rw [zaQ];exact hj
   have:=hdb.2 _ (List.getElem_mem hjl)
   rw [zae hjl]
   simpa using this
  have hb:=zh9 hj ls.flatten (List.replicate es.length 0) (by simp) fun x hx=>by
   obtain ⟨l,hl,hxl⟩:=List.mem_flatten.1 hx
   exact ((hS l hl).range x hxl).1
  have h3:(ls.flatten.filter fun x=>x==(j:Int)).length=2:=by
   have e:(cntL es.length ls.flatten)=ls.flatten.foldl bump1 (List.replicate es.length 0):=rfl
   rw [e,hb] at h2
   have:(List.replicate es.length (0:Int)).getD j 0=0:=by simp [List.getD,hj]
   omega
  rw [zj2 fun l hl=>zdl (hS l hl).asc] at h3
  have hmap:ls=(List.range ls.length).map fun i=>ls.getD i []:=by
   apply List.ext_getElem
   ·simp
   ·intro i h1 h2;rw [List.getElem_map,List.getElem_range,zae h1]
  unfold inN at h3
  rw [hmap,List.filter_map,List.length_map] at h3
  rw [← h3]
  congr 1
  refine List.filter_congr fun i hi=>?_
  have hi:=List.mem_range.1 hi
  show (sgn es ls ts j i != 0)=decide ((j:Int)∈ls.getD i [])
  by_cases hjm:(j:Int)∈ls.getD i []
  ·rw [decide_eq_true hjm,hsgn j i hi hjm];split <;> rfl
  ·rw [decide_eq_false hjm];unfold sgn;rw [if_neg hjm];rfl
 have hfin:∀ j,j<es.length→(sgSum es ls ts j ls.length=0↔(j,false)∈D∧(j,true)∈D):=fun j hj=>by
  unfold sgSum
  rw [zt2 (f:=sgn es ls ts j) (fun i hi=>by
   have hi:=List.mem_range.1 hi
   by_cases hjm:(j:Int)∈ls.getD i []
   ·rw [hsgn j i hi hjm];split
    ·exact .inr (.inl rfl)
    ·exact .inr (.inr rfl)
   ·left;unfold sgn;rw [if_neg hjm]) (hcnt j hj)]
  have one:∀ (b:Bool),(∃ i∈List.range ls.length,sgn es ls ts j i=if b=false then 1 else -1)↔(j,b)∈D:=fun b=>by
   rw [hD]
   constructor
   ·rintro ⟨i,hi,hh⟩
    have hi:=List.mem_range.1 hi
    by_cases hjm:(j:Int)∈ls.getD i []
    ·rw [hsgn j i hi hjm] at hh
     refine ⟨i,hi,hjm,?_⟩
     generalize ((!fwB es (ls.getD i []) j) != (ts.getD i 0==1))=q at hh
     cases b <;> cases q <;> simp at hh ⊢
    ·unfold sgn at hh;rw [if_neg hjm] at hh
     cases b <;> simp at hh
   ·rintro ⟨i,hi,hjm,hh⟩
    exact ⟨i,List.mem_range.2 hi,by rw [hsgn j i hi hjm,hh]⟩
  have o1:=one false
  have o2:=one true
  simp only [if_true,if_false,Bool.true_eq_false] at o1 o2
  rw [o1,o2]
 unfold orB
 rw [Bool.eq_iff_iff,decide_eq_true_iff,@decide_eq_true_iff _ (Classical.propDecidable _),zrc hn hr]
 exact ⟨fun h j hj=>(hfin j hj).2 (h j hj),fun h j hj=>(hfin j hj).1 (h j hj)⟩
theorem zrV:∀ c:Int,Cl H (.func (.func 90) ⟨[]⟩ ⟨[]⟩) (.int .i64 c) (decide (0≤c∧c≤1)):=by
 intro c G hG K k
 refine zaJ ?_
 apply F90.ac
 unfold F90.B2 F90.B1
 exact zbZ (zai (k _ (AHeap.le_refl _)))
theorem zsI:(decide (ts.length=ls.length)&&ts.all fun t=>decide (0≤t∧t≤1))=decide (TurnsOk ls ts):=by
 rw [Bool.eq_iff_iff,Bool.and_eq_true,decide_eq_true_iff,decide_eq_true_iff,List.all_eq_true]
 unfold TurnsOk
 constructor
 ·rintro ⟨h1,h2⟩
  exact ⟨h1,fun i hi=>by rw [zae hi];exact of_decide_eq_true (h2 _ (List.getElem_mem hi))⟩
 ·rintro ⟨h1,h2⟩
  refine ⟨h1,fun t ht=>?_⟩
  obtain ⟨i,hi,rfl⟩:=List.getElem_of_mem ht
  have:=h2 i hi
  rw [zae hi] at this
  exact decide_eq_true this
theorem znH (h:Edges H v es) (hl:es.length≤1048576) (hr:RowsR H u ls) (hrl:ls.length+totL ls≤1048576) (hc:Ints H w ts) (htl:ts.length≤1048576)
 (k:∀ G,H.le G→K (.tuple ⟨[.bool (otB n es ls ts),.int .i64 (otCode n es ls ts)]⟩) G):AC Tryz.prog T0 30 [.agg ⟨[.int .i64 n,v]⟩,u,w] H K:=by
 have hrr:∀ l∈ls,l.length≤1048576:=fun l hl=>by have:=zlP hl;omega
 apply F30.ac
 unfold F30.B21
 refine zaf (zak (zah h)) fun H1 l1 n1 o1=>?_
 -- behind the code
 have main:∀ (G:AHeap) (q:Bool),H1.le G→q=(decide (SetsB es ls)&&decide (TurnsOk ls ts))→F30.B18 K u w H.length (if IsG n es then (if q=true then 0 else 2) else 1) G:=by
  intro G q lG hq
  have l1G:=AHeap.le_trans l1 lG
  have oG:=o1.le lG
  have k1:=k G l1G
  unfold F30.B18
  refine zaa (fun hs=>?_) fun hs=>?_
  ·unfold F30.B17
   have e:otCode n es ls ts=if IsG n es then (if q=true then 0 else 2) else 1:=by
    unfold otCode dcCode
    by_cases hg:IsG n es
    ·simp only [if_pos hg] at hs ⊢
     by_cases hS:SetsB es ls
     ·by_cases hT:TurnsOk ls ts
      ·rw [hq,decide_eq_true hS,decide_eq_true hT] at hs;simp at hs
      ·rw [hq,decide_eq_false hT];simp [hS,hT]
     ·rw [hq,decide_eq_false hS];simp [hS]
    ·simp [hg]
   have hne:otCode n es ls ts≠0:=by rw [e];exact bne_iff_ne.1 hs
   unfold otB at k1
   rw [if_neg hne,e] at k1
   exact k1
  have hz:(if IsG n es then (if q=true then 0 else 2) else 1:Int)=0:=bne_eq_false_iff_eq.1 hs
  have hg:IsG n es:=by
   by_cases hg:IsG n es
   ·exact hg
   ·rw [if_neg hg] at hz;cases hz
  rw [if_pos hg] at hz
  have hqt:q=true:=by
   cases q with
   | true=>rfl
   | false=>simp at hz
  rw [hq,Bool.and_eq_true,decide_eq_true_iff,decide_eq_true_iff] at hqt
  obtain ⟨hS,hT⟩:=hqt
  have h0:dcCode n es ls=0:=by unfold dcCode;rw [if_pos hg,if_pos hS]
  have n0:=hg.ed.lo;have n1:=hg.ed.hi
  have h30:es.length≤30:=by have:=hg.ed.len;omega
  unfold F30.B16
  refine zac oG rfl (zab oG rfl (zij (h.le l1G) hg (hr.le l1G) (by omega) (by omega) hS fun G2 l2=>zai (zaa (fun hs=>?_) fun hs=>?_)))
  ·rw [Bool.not_eq_true'] at hs
   unfold F30.B15
   have k:=k _ (AHeap.le_trans l1G l2)
   have e:otCode n es ls ts=5:=by unfold otCode;rw [if_pos h0,if_pos hT,if_neg (by rw [hs];decide)]
   unfold otB at k
   rw [e,if_neg (by decide)] at k;exact k
  rw [Bool.not_eq_false'] at hs
  have e0:otCode n es ls ts=0:=by unfold otCode;rw [if_pos h0,if_pos hT,if_pos hs]
  unfold otB at k
  rw [if_pos e0,e0] at k
  have lG2:=AHeap.le_trans lG l2
  unfold F30.B14
  refine zvn fun G3 l3 n3 hM=>?_
  obtain ⟨bm,hbm⟩:∃ bm,bm=G2.length:=⟨_,rfl⟩
  rw [← hbm] at hM ⊢
  have hlG2:=lG2.1
  unfold F30.B13
  refine (hr.le (AHeap.le_trans l1 (AHeap.le_trans lG2 l3))).len ?_
  unfold F30.L2
  refine ⟨fun x2 x3 x10 x40 x41 x42 G'=>w=x2∧H.length=x3∧.map (some bm)=x10∧u=x40∧(ls.length:Int)=x41∧H1.le G'∧∃ (i:Nat) (D:List (Nat × Bool)),x42=i∧i≤ls.length∧DirM G' bm D∧SeenD es ls ts i D,
   fun _ _ _ _ _ x42 _=>ls.length-x42.toNat,⟨rfl,rfl,rfl,rfl,rfl,AHeap.le_trans lG2 l3,0,[],rfl,by omega,hM,List.nodup_nil,fun d=>⟨(fun h=>by cases h),fun ⟨i,hi,_⟩=>absurd hi (by omega)⟩⟩,?_⟩
  clear hM l3 n3
  rintro x2 x3 x10 x40 x41 x42 G3 ⟨rfl,rfl,rfl,rfl,rfl,lG3,i,D,rfl,hi,hM,hD⟩
  have l1G3:=AHeap.le_trans l1 lG3
  have oG3:=o1.le lG3
  unfold F30.B12
  refine zaa (fun hb=>?_) fun hb=>?_
  ·have hil:i<ls.length:=by have:=of_decide_eq_true hb;omega
   have hmem:ls.getD i []∈ls:=by rw [zae hil];exact List.getElem_mem hil
   have hsI:=hS _ hmem
   obtain ⟨hE,h1c⟩:=zk1 hs hmem
   obtain ⟨e,⟨r,hlr⟩,he,hpe,hiff,hlow⟩:=zh2 hsI h1c
   have hshort:=hsI.short2
   have hds:dirsOf es (ls.getD i [])=dirL es (bitB (ls.getD i [])) e (compL es (bitB (ls.getD i [])) e).length:=by
    unfold dirsOf
    rw [show (ls.getD i []).getD 0 0=(e:Int) by rw [hlr];rfl,Int.toNat_natCast]
   unfold F30.B11
   refine (hr.le l1G3).row hil fun q hq=>?_
   unfold F30.B10
   refine zac oG3 rfl (zab oG3 rfl (zbk hq (by omega) (fun x hx=>by have:=hsI.range x hx;omega) (zag ⟨AHeap.le_refl _,?_⟩)))
   refine zmI (p:=bitB (ls.getD i [])) (e:=e) (h.le l1G3) hg (zjk hg hE) he hpe (fun j=>hiff j) hlow fun wF G4 l4 fD=>?_
   rw [← hds] at fD
   have hTl:(dirsOf es (ls.getD i [])).length=(compL es (bitB (ls.getD i [])) e).length:=by rw [hds,zcD]
   refine fD.sl.len (by decide) (n:=(dirsOf es (ls.getD i [])).length) (by rw [zdP]) ?_
   have hbG:=hM.lt
   have hT30:(dirsOf es (ls.getD i [])).length≤30:=by
    rw [hTl]
    have:(compL es (bitB (ls.getD i [])) e).length≤es.length:=zas _ _
    omega
   unfold F30.L4
   refine ⟨fun x2 x3 x10 x11 x40 x41 x42 x50 x51 x52 G'=>w=x2∧H.length=x3∧.map (some bm)=x10∧((i:Nat):Int)=x11∧u=x40∧(ls.length:Int)=x41∧((i:Nat):Int)=x42∧wF=x50∧((dirsOf es (ls.getD i [])).length:Int)=x51∧H1.le G'∧Fresh G3.length G' wF 107 2 (LD (dirsOf es (ls.getD i [])))∧
    ∃ (t:Nat) (D':List (Nat × Bool)),x52=t∧t≤(dirsOf es (ls.getD i [])).length∧DirM G' bm D'∧D'.Nodup∧∀ d,d∈D'↔d∈D∨∃ b,(d.1,b)∈(dirsOf es (ls.getD i [])).take t∧d.2=(b != (ts.getD i 0==1)),
    fun _ _ _ _ _ _ _ _ _ x52 _=>(dirsOf es (ls.getD i [])).length-x52.toNat,⟨rfl,rfl,rfl,rfl,rfl,rfl,rfl,rfl,rfl,AHeap.le_trans lG3 l4,fD,0,D,rfl,by omega,hM.le l4,hD.1,fun d=>by simp⟩,?_⟩
   clear fD
   rintro x2 x3 x10 x11 x40 x41 x42 x50 x51 x52 G5 ⟨rfl,rfl,rfl,rfl,rfl,rfl,rfl,rfl,rfl,lG5,fD,t,D',rfl,ht,hM',hn',hD'⟩
   have l1G5:=AHeap.le_trans l1 lG5
   unfold F30.B9
   refine zaa (fun hb=>?_) fun hb=>?_
   ·have htl:t<(dirsOf es (ls.getD i [])).length:=by have:=of_decide_eq_true hb;omega
    obtain ⟨db,do',dk,dc1,dc2⟩:=zxi fD (i:=t) htl
    obtain ⟨d,hd⟩:∃ d,d=(dirsOf es (ls.getD i [])).getD t (0,false):=⟨_,rfl⟩
    have hdm:d∈dirsOf es (ls.getD i []):=by rw [hd,zae htl];exact List.getElem_mem htl
    have hdin:=((zkP hg hsI hE h1c d.1 d.2).1 hdm).1
    have hdl:=hsI.range _ hdin
    rw [← hd] at dc1 dc2
    have hti:ts.length=ls.length:=hT.1
    unfold F30.B8
    refine dk _ (zap dc1 (zic dc2 (zai (zaf rfl fun G6 l6 n6 o6=>zaG o6 (by simp) (by simp [Value.oneCell']) rfl fun G7 b7 o7=>?_))))
    have o7:Own G7 G5.length 107 [.int .i64 (d.1:Nat),.bool d.2]:=by simpa using o7
    have l57:G5.le G7:=b7.le l6 (Nat.le_refl _)
    have lG7:=AHeap.le_trans lG5 l57
    unfold F30.B7
    refine zab o7 rfl (zai ((hc.le (AHeap.le_trans l1 lG7)).rd (by omega) (by omega) (zaG o7 (by simp) (by simp [Value.oneCell']) rfl fun G8 b8 o8=>?_)))
    rw [Int.toNat_natCast] at o8
    have o8:Own G8 G5.length 107 [.int .i64 (d.1:Nat),.bool (!(d.2==(ts.getD i 0==1)))]:=by simpa using o8
    have l58:G5.le G8:=b8.le l57 (Nat.le_refl _)
    have hM8:=hM'.le l58
    unfold F30.B6
    refine zac o8 rfl (zab o8 rfl (zai (zyr (d:=(d.1,!(d.2==(ts.getD i 0==1)))) hM8 (by show d.1<_;omega) fun G9 b9 hM9=>?_)))
    have hlG5:=hM'.lt
    have l19:H1.le G9:=b9.le (AHeap.le_trans lG5 l58) (by omega)
    unfold F30.B5
    rw [zad (by omega) (by omega)]
    refine ⟨⟨rfl,rfl,rfl,rfl,rfl,rfl,rfl,rfl,rfl,l19,(fD.le l58).but b9 hbG,t+1,_,by omega,by omega,hM9,hM9.elim fun _ h=>h.elim fun _ h=>h.2.2.1,fun a=>?_⟩,by show (dirsOf es (ls.getD i [])).length-((t:Int)+1).toNat<(dirsOf es (ls.getD i [])).length-(t:Int).toNat;omega⟩
    have htake:(dirsOf es (ls.getD i [])).take (t+1)=(dirsOf es (ls.getD i [])).take t++[d]:=by
     rw [List.take_succ_eq_append_getElem htl,hd,zae htl]
    have hmemD:a∈(if (d.1,!(d.2==(ts.getD i 0==1)))∈D' then D' else D'++[(d.1,!(d.2==(ts.getD i 0==1)))])↔a∈D'∨a=(d.1,!(d.2==(ts.getD i 0==1))):=by
     by_cases hin:(d.1,!(d.2==(ts.getD i 0==1)))∈D'
     ·rw [if_pos hin]
      exact ⟨.inl,fun h=>h.elim id fun h=>by rw [h];exact hin⟩
     ·rw [if_neg hin,List.mem_append,List.mem_singleton]
    rw [hmemD,hD',htake]
    constructor
    ·rintro ((h1|⟨b,h1,h2⟩)|h1)
     ·exact .inl h1
     ·exact .inr ⟨b,List.mem_append_left _ h1,h2⟩
     ·refine .inr ⟨d.2,List.mem_append_right _ ?_,?_⟩
      ·rw [h1];simp
      ·rw [h1];rfl
    ·rintro (h1|⟨b,h1,h2⟩)
     ·exact .inl (.inl h1)
     ·rcases List.mem_append.1 h1 with h1|h1
      ·exact .inl (.inr ⟨b,h1,h2⟩)
      ·rw [List.mem_singleton] at h1
       right
       have e1:a.1=d.1:=by rw [← h1]
       have e2:b=d.2:=by rw [← h1]
       exact Prod.ext e1 (by rw [h2,e2];rfl)
   ·have hte:t=(dirsOf es (ls.getD i [])).length:=by have:=of_decide_eq_false hb;omega
    subst hte
    unfold F30.B3
    rw [zad (by omega) (by omega)]
    refine ⟨⟨rfl,rfl,rfl,rfl,rfl,lG5,i+1,D',by omega,by omega,hM',hn',fun d=>?_⟩,by show ls.length-((i:Int)+1).toNat<ls.length-(i:Int).toNat;omega⟩
    rw [hD',hD.2,List.take_length]
    constructor
    ·rintro (⟨i',h1,h2⟩|h1)
     ·exact ⟨i',by omega,h2⟩
     ·exact ⟨i,by omega,h1⟩
    ·rintro ⟨i',h1,h2⟩
     by_cases e:i'=i
     ·subst e;exact .inr h2
     ·exact .inl ⟨i',by omega,h2⟩
  ·have hie:i=ls.length:=by have:=of_decide_eq_false hb;omega
   subst hie
   unfold F30.B1
   refine zwr hM (zab oG3 rfl ((h.le l1G3).len ?_))
   rw [zad (by omega) (by omega)]
   have k:=k G3 l1G3
   have e:((D.length:Int)==2*(es.length:Int))=orB es ls ts:=by
    rw [← zy3 hg hS hT hs hD,Bool.eq_iff_iff,beq_iff_eq,decide_eq_true_iff];omega
   rw [e]
   exact k
 have l0:=AHeap.le_refl H1
 unfold F30.B20 F30.B19
 have hg0:∀ G (q:Bool),H1.le G→q=(decide (SetsB es ls)&&decide (TurnsOk ls ts))→AC Tryz.prog T0 53 [.agg ⟨[.int .i64 n,v]⟩,.bool q] G fun v13 H14=>asI .i64 v13 fun v15=>F30.B18 K u w H.length v15 H14:=fun G q hG hq=>
  zaA (h.le (AHeap.le_trans l1 hG)) hl fun G2 l2=>zag (main G2 q (AHeap.le_trans hG l2) hq)
 refine zac o1 rfl (zab o1 rfl (zac o1 rfl (zab o1 rfl (zkn (h.le l1) hl (hr.le l1) (by omega) hrr fun H2 l2=>zai ⟨l2,zaa (fun hb=>?_) fun hb=>?_⟩))))
 ·refine (hc.le l1).len ((hr.le l1).len (zaa (fun hb2=>?_) fun hb2=>?_))
  ·have hlen:ts.length=ls.length:=by have:=beq_iff_eq.1 hb2;omega
   refine zd9 (p:=fun t=>decide (0≤t∧t≤1)) (hc.le (AHeap.le_trans l1 l2)) (by omega) rfl (fun e _=>zrV e) fun H3 l3=>zai ⟨l3,?_⟩
   refine hg0 H3 _ (AHeap.le_trans l2 l3) ?_
   rw [hb,Bool.true_and,← zsI,decide_eq_true hlen,Bool.true_and]
  ·refine hg0 H2 false l2 ?_
   have hne:¬ TurnsOk ls ts:=fun ht=>by have:=ht.1;have:=beq_eq_false_iff_ne.1 hb2;omega
   rw [decide_eq_false hne,Bool.and_false]
 ·exact hg0 H2 false l2 (by rw [hb,Bool.false_and])
end Go.Proofs
namespace Go.Proofs
open Go.Abs

variable {l m c ts:List Int} {es fs:List (Int × Int)} {ls:List (List Int)} {n:Int}

theorem zlx {i:Nat} (h:i<ts.length):(ts.map fun t=>1-t).getD i 0=1-ts.getD i 0:=by
 simp [List.getD,List.getElem?_map,List.getElem?_eq_getElem h]
theorem zzv (h:TurnsOk ls ts):TurnsOk ls (ts.map fun t=>1-t):=by
 refine ⟨by rw [List.length_map];exact h.1,fun i hi=>?_⟩
 rw [List.length_map] at hi
 have:=h.2 i hi
 rw [zlx hi];omega
theorem zwo (h:TurnsOk ls ts) {i:Nat} (hi:i<ls.length) (j:Nat):sgn es ls (ts.map fun t=>1-t) j i=-sgn es ls ts j i:=by
 have hl:=h.1
 have hr:=h.2 i (by omega)
 unfold sgn
 rw [zlx (by omega)]
 split
 ·have:ts.getD i 0=0∨ts.getD i 0=1:=by omega
  rcases this with e|e <;> rw [e] <;> cases fwB es (ls.getD i []) j <;> decide
 ·rfl
theorem zkg (h:TurnsOk ls ts) (j:Nat):∀ i,i≤ls.length→sgSum es ls (ts.map fun t=>1-t) j i=-sgSum es ls ts j i
 | 0,_=>rfl
 | i+1,hi=>by
  rw [ze7,ze7,zkg h j i (by omega),zwo h (by omega)];omega
theorem zsr:orB es ls ts=true↔∀ j,j<es.length→sgSum es ls ts j ls.length=0:=
 ⟨fun h=>@of_decide_eq_true _ (Classical.propDecidable _) h,fun h=>@decide_eq_true _ (Classical.propDecidable _) h⟩
theorem zy0 (h:TurnsOk ls ts):orB es ls (ts.map fun t=>1-t)=orB es ls ts:=by
 have key:(∀ j,j<es.length→sgSum es ls (ts.map fun t=>1-t) j ls.length=0)↔∀ j,j<es.length→sgSum es ls ts j ls.length=0:=by
  constructor <;> intro h2 j hj <;> have h3:=h2 j hj <;> have h4:=zkg (es:=es) h j ls.length (Nat.le_refl _) <;> omega
 rw [Bool.eq_iff_iff,zsr,zsr]
 exact key
theorem zyA (h:otCode n es ls ts=0):otCode n es ls (ts.map fun t=>1-t)=0∧otB n es ls (ts.map fun t=>1-t)=otB n es ls ts∧dcCode n es ls=0∧dcB n es ls=true:=by
 obtain ⟨hg,hS,hT,hd⟩:=ziC h
 have hc:dcCode n es ls=0:=by unfold dcCode;rw [if_pos hg,if_pos hS]
 have h2:otCode n es ls (ts.map fun t=>1-t)=0:=by
  unfold otCode;rw [if_pos hc,if_pos (zzv hT),if_pos hd]
 refine ⟨h2,?_,hc,by unfold dcB;rw [if_pos hc,hd]⟩
 unfold otB
 rw [if_pos h2,if_pos h,zy0 hT]
end Go.Proofs
namespace Go.Proofs
open Go.Abs

variable {H G:AHeap} {v u f:Value} {l m c D:List Int} {es fs:List (Int × Int)} {K:Value→AHeap→Prop} {n:Int}

theorem zos (h:Ints H v l) (g:Ints H u l) (hl:l.length≤1000000000) (k:K (.bool true) H):AC Tryz.prog T0 12 [v,u] H K:=by
 apply F12.ac
 unfold F12.B10 F12.B9
 refine h.len (g.len (zaz (by simp) ?_))
 unfold F12.B7 F12.L2
 refine ⟨fun x0 x1 x5 G=>v=x0∧u=x1∧H=G∧∃ i:Nat,x5=i∧i≤l.length,fun _ _ x5 _=>l.length-x5.toNat,⟨rfl,rfl,rfl,0,rfl,by omega⟩,?_⟩
 rintro x0 x1 x5 G ⟨rfl,rfl,rfl,i,rfl,hi⟩
 unfold F12.B6
 refine h.len (zaa (fun hb=>?_) fun hb=>?_)
 ·have hlt:i<l.length:=by have:=of_decide_eq_true hb;omega
  unfold F12.B5
  refine h.rd (by omega) (by omega) (g.rd (by omega) (by omega) (zaz (by simp) ?_))
  unfold F12.B3
  rw [zad (by omega) (by omega)]
  exact ⟨⟨rfl,rfl,rfl,i+1,by omega,by omega⟩,by simp;omega⟩
 ·unfold F12.B1
  exact k
theorem zqo {A A':Nat→Prop} {B B':Nat} {ls:List (List Int)} (h:RowsF A B H v ls) (g:RowsF A' B' H u ls) (hl:ls.length≤1000000000) (hr:∀ l∈ls,l.length≤1000000000) (k:K (.bool true) H):AC Tryz.prog T0 9 [v,u] H K:=by
 apply F9.ac
 unfold F9.B10 F9.B9
 refine h.len (g.len (zaz (by simp) ?_))
 unfold F9.B7 F9.L2
 refine ⟨fun x0 x1 x5 G=>v=x0∧u=x1∧H=G∧∃ i:Nat,x5=i∧i≤ls.length,fun _ _ x5 _=>ls.length-x5.toNat,⟨rfl,rfl,rfl,0,rfl,by omega⟩,?_⟩
 rintro x0 x1 x5 G ⟨rfl,rfl,rfl,i,rfl,hi⟩
 unfold F9.B6
 refine h.len (zaa (fun hb=>?_) fun hb=>?_)
 ·have hlt:i<ls.length:=by have:=of_decide_eq_true hb;omega
  have hm:(ls.getD i []).length≤1000000000:=by rw [zae hlt];exact hr _ (List.getElem_mem hlt)
  unfold F9.B5
  refine h.row hlt fun w fw=>g.row hlt fun y fy=>zos fw.ints fy.ints hm (zai (zaz (by simp) ?_))
  unfold F9.B3
  rw [zad (by omega) (by omega)]
  exact ⟨⟨rfl,rfl,rfl,i+1,by omega,by omega⟩,by simp;omega⟩
 ·unfold F9.B1
  exact k
theorem zz1 (h:Byts H v l) (k:K (.bool (decide ((l.length:Int)>4096))) H):AC Tryz.prog T0 5 [v] H K:=by
 apply F5.ac
 unfold F5.B2 F5.B1
 exact h.len k
end Go.Proofs
namespace Go.Proofs
open Go.Abs

variable {H G G' Hb:AHeap} {v u w:Value} {es fs:List (Int × Int)} {l c R:List Int} {n:Int}

abbrev QC36:Value→AHeap→Prop:=fun v _=>v=.bool true
theorem zvy (h:lgCode n es=0):IsG n es∧geCode n es (List.replicate n.toNat 0)=0∧lgVal n es≤geVal n es (List.replicate n.toNat 0)∧0≤lgVal n es:=by
 have hc:conCode n es=0:=by
  apply Classical.byContradiction
  intro h1
  exact h1 ((zr7 rfl h1).1▸h)
 obtain ⟨hg,h1⟩:=zdC hc
 have n0:=hg.ed.lo
 have hz:bitR n.toNat 0=List.replicate n.toNat 0:=by
  unfold bitR
  simp [List.map_const']
 have hR:RotP n (List.replicate n.toNat 0):=⟨by simp;omega,fun x hx=>by rw [List.mem_replicate] at hx;omega⟩
 have hr:rtCode n es (List.replicate n.toNat 0)=0:=by unfold rtCode;rw [if_pos hg,if_pos hR]
 have hge:geCode n es (List.replicate n.toNat 0)=0:=by unfold geCode;rw [if_pos hr,if_pos h1]
 have hv:lgVal n es=lgTo n es (2^n.toNat):=by unfold lgVal;rw [if_pos h]
 refine ⟨hg,hge,?_,by rw [hv];exact zn7 hg h1 _⟩
 unfold geVal
 rw [if_pos hge,hv,← hz]
 exact znW.2 0 (Nat.two_pow_pos _)
theorem zA8 (hB:Byts H u l) (hl:l.length≤4096):F4.B10 QC36 u H:=by
 unfold F4.B10
 refine zlT hB hl fun v n es G lG hS c1=>zax (zag (zaf rfl fun H2 l2 n2 o2=>zaG (new:=[.int .i64 n,v]) o2 (by simp) (zaT (zbN hS)) rfl fun H3 b3 o3=>?_))
 have l3:G.le H3:=b3.le l2 (Nat.le_refl _)
 have hE:=(zbg hS).le l3
 unfold F4.B9
 refine zac o3 rfl (zab o3 rfl (zm9 hE (by omega) fun H4 l4=>zaB (zag (zag ?_))))
 have o4:=o3.le l4;have hE4:=hE.le l4
 unfold F4.B8
 refine zac o4 rfl (zab o4 rfl (znq hE4 (by omega) fun H5 l5=>zaB (zag (zag ?_))))
 have o5:=o4.le l5;have hE5:=hE4.le l5
 unfold F4.B7
 refine zaz (by simp) (zaz (by simp) ?_)
 unfold F4.B5
 refine zaa (fun hs=>?_) fun _=>by unfold F4.B1;rfl
 obtain ⟨hg,g0,g1,g2⟩:=zvy (beq_iff_eq.1 hs)
 have n0:=hg.ed.lo;have n20:=hg.ed.hi
 unfold F4.B4
 refine zac o5 rfl (zab o5 rfl (zac o5 rfl (zaF (by omega) (by omega) (by decide) fun H6 l6 n6 o6=>?_)))
 have o6:Own H6 H5.length 2 (LI (List.replicate n.toNat 0)):=by simpa using o6
 have hz:Ints H6 (.slice (some ⟨H5.length,0,none⟩) n.toNat (n.toNat+1)) (List.replicate n.toNat 0):=by
  have:=zau (c:=n.toNat+1) o6
  rwa [List.length_replicate] at this
 refine zhE (hE5.le l6) (by omega) hz (by rw [List.length_replicate];omega) fun H7 l7=>zaB (zag (zag ?_))
 unfold F4.B3
 rw [g0]
 refine zaz rfl (zaz (decide_eq_false (by omega)) (zaz (decide_eq_false (by omega)) ?_))
 unfold F4.B1
 rfl
theorem zBA {q:Bool} {d:Int} (hB:Byts H u l) (hl:l.length≤4096):F4.B15 QC36 u q d q d H:=by
 unfold F4.B15
 refine zl0 hB hl fun v n es w c G lG hS fw c1 c2 _ _=>zaB (zax (zag (zaf rfl fun H2 l2 n2 o2=>zaG (new:=[.int .i64 n,v]) o2 (by simp) (zaT (zbN hS)) rfl fun H3 b3 o3=>?_)))
 have l3:G.le H3:=b3.le l2 (Nat.le_refl _)
 have hE:=(zbg hS).le l3
 have hw:=fw.ints.le l3
 have l03:=AHeap.le_trans lG l3
 unfold F4.B14
 refine zac o3 rfl (zab o3 rfl (zhE hE (by omega) hw (by omega) fun H4 l4=>zaB (zag (zag ?_))))
 have o4:=o3.le l4;have hE4:=hE.le l4;have hw4:=hw.le l4
 unfold F4.B13
 refine zac o4 rfl (zab o4 rfl (zmG hE4 (by omega) hw4 (by omega) fun H5 l5=>zaB (zag (zag ?_))))
 unfold F4.B12
 exact zaz (by simp) (zaz (by simp) (zaz (by simp) (zaz (by simp) (zA8 (hB.le (AHeap.le_trans l03 (AHeap.le_trans l4 l5))) hl))))
theorem zzY (hB:Byts H u l) (hl:l.length≤4096):F4.B18 QC36 u H:=by
 unfold F4.B18
 refine zkW hB hl fun v n es w ls G lG hS hR c1 c2 c3=>zaB (zax (zag (zaf rfl fun H2 l2 n2 o2=>zaG (new:=[.int .i64 n,v]) o2 (by simp) (zaT (zbN hS)) rfl fun H3 b3 o3=>?_)))
 have l3:G.le H3:=b3.le l2 (Nat.le_refl _)
 have hE:=(zbg hS).le l3
 have hr:=hR.toR.le l3
 have l03:=AHeap.le_trans lG l3
 have htot:=zke c3
 have htot2:ls.length*3000≤200*3000:=Nat.mul_le_mul_right _ c2
 unfold F4.B17
 refine zac o3 rfl (zab o3 rfl (zej hE (by omega) hr (by omega) fun H4 l4=>zaB (zai (zag ?_))))
 have o4:=o3.le l4;have hE4:=hE.le l4;have hr4:=hr.le l4
 unfold F4.B16
 refine zac o4 rfl (zab o4 rfl (zkU hE4 (by omega) hr4 (by omega) fun H5 l5=>zaB (zai (zag ?_))))
 exact zBA (hB.le (AHeap.le_trans l03 (AHeap.le_trans l4 l5))) hl
theorem zyj {r:Nat→Nat} (hg:IsG n es) (h:l∈facL es r) {x:Int} (hx:x∈l):0≤x∧x<es.length:=by
 unfold facL at h
 obtain ⟨d,hd,rfl⟩:=List.mem_map.1 h
 have hd:=(za7.1 hd).1
 have hp:=zeK hg r
 obtain ⟨y,hy,rfl⟩:=List.mem_map.1 hx
 have:=hp.orb hd ((hp.mem_orbL hd).1 hy)
 omega
theorem zBD {x26:Nat} {x28:Value} {r:Nat→Nat} {bc:Nat} (hB:Byts H u l) (hl:l.length≤4096) (hg:IsG n es) (hR:RowsR H x28 (facL es r)) (oC:Own H bc 2 (LI (List.replicate es.length 0))) (hbc:Hb.length≤bc) (lb:Hb.le H) (hRb:RowsR Hb x28 (facL es r)) (hBb:Byts Hb u l) :
 F4.B33 QC36 u x28 (.slice (some ⟨bc,0,none⟩) es.length (es.length+1)) H:=by
 have h30:es.length≤30:=by have:=hg.ed.len;have:=hg.ed.hi;omega
 obtain ⟨ls,hls⟩:∃ ls,ls=facL es r:=⟨_,rfl⟩
 have hlen:ls.length≤60:=by rw [hls];have:=znr (es:=es) (r:=r);omega
 have hrow:∀ s∈ls,s.length≤60:=fun s hs=>by rw [hls] at hs;have:=zpb hg hs;omega
 have hrng:∀ s∈ls,∀ x∈s,0≤x∧x<es.length:=fun s hs x hx=>by rw [hls] at hs;exact zyj hg hs hx
 have htot:=zke hrow
 have htot2:ls.length*60≤60*60:=Nat.mul_le_mul_right _ hlen
 have htw:∀ j,j<es.length→(cntL es.length ls.flatten).getD j 0=2:=fun j hj=>by
  rw [zuH hj fun x hx=>?_,hls,ztO hg hj];rfl
  obtain ⟨s,hs,hx⟩:=List.mem_flatten.1 hx
  exact (hrng s hs x hx).1
 rw [← hls] at hRb
 have hsl:∀ cs:List Int,cs.length=es.length→(.slice (some ⟨bc,0,none⟩) es.length (es.length+1):Value)=.slice (some ⟨bc,0,none⟩) cs.length (cs.length+1):=fun cs h=>by rw [h]
 unfold F4.B33 F4.L25
 refine ⟨fun x0 y28 x32 x33 G=>u=x0∧x28=y28∧.slice (some ⟨bc,0,none⟩) es.length (es.length+1)=x32∧Hb.le G∧∃ i:Nat,x33=i∧i≤ls.length∧Own G bc 2 (LI (cntL es.length (ls.take i).flatten)),fun _ _ _ x33 _=>ls.length-x33.toNat,⟨rfl,rfl,rfl,lb,0,rfl,by omega,oC⟩,?_⟩
 rintro x0 y28 x32 x33 G ⟨rfl,rfl,rfl,hG,i,rfl,hi,oC⟩
 unfold F4.B32
 refine (hRb.le hG).len (zaa (fun hb=>?_) fun hb=>?_)
 ·have hlt:i<ls.length:=by have:=of_decide_eq_true hb;omega
  have hm:ls.getD i []∈ls:=by rw [zae hlt];exact List.getElem_mem hlt
  have hfl:=zeQ (ls:=ls) (i+1)
  rw [zd3 hlt,List.length_append] at hfl
  unfold F4.B31 F4.L27
  refine ⟨fun x0 y28 x32 x33 x34 G=>u=x0∧x28=y28∧.slice (some ⟨bc,0,none⟩) es.length (es.length+1)=x32∧(i:Int)=x33∧Hb.le G∧∃ t:Nat,x34=t∧t≤(ls.getD i []).length∧Own G bc 2 (LI (cntL es.length ((ls.take i).flatten++(ls.getD i []).take t))),fun _ _ _ _ x34 _=>(ls.getD i []).length-x34.toNat,⟨rfl,rfl,rfl,rfl,hG,0,rfl,by omega,by simpa using oC⟩,?_⟩
  rintro x0 y28 x32 x33 x34 G3 ⟨rfl,rfl,rfl,rfl,hG3,t,rfl,ht',oC3⟩
  unfold F4.B30
  refine (hRb.le hG3).row hlt fun w3 hw3=>hw3.len (zaa (fun hb'=>?_) fun hb'=>?_)
  ·have htl:t<(ls.getD i []).length:=by have:=of_decide_eq_true hb';omega
   have hx:=hrng _ hm _ (List.getElem_mem htl)
   unfold F4.B29
   refine (hRb.le hG3).row hlt fun w4 hw4=>hw4.rd (by omega) (by omega) ?_
   rw [Int.toNat_natCast,zae htl,hsl _ (zaQ _ _)]
   refine zdI oC3 hx.1 (by rw [zaQ];exact hx.2) (fun c hc=>by
    have:=znZ _ _ c hc
    have h5:((ls.getD i []).take t).length≤(ls.getD i []).length:=List.length_take_le' ..
    rw [List.length_append] at this
    omega) fun G4 b4 o4=>?_
   rw [← hsl _ (zaQ _ _)]
   unfold F4.B28
   rw [zad (by omega) (by omega)]
   refine ⟨⟨rfl,rfl,rfl,rfl,b4.le hG3 hbc,t+1,by omega,by omega,?_⟩,show (ls.getD i []).length-((t:Int)+1).toNat<(ls.getD i []).length-((t:Nat):Int).toNat by omega⟩
   rw [List.take_succ_eq_append_getElem htl,← List.append_assoc,ziL];exact o4
  ·have hge:t=(ls.getD i []).length:=by have:=of_decide_eq_false hb';omega
   subst hge
   rw [List.take_length] at oC3
   unfold F4.B26
   rw [zad (by omega) (by omega)]
   exact ⟨⟨rfl,rfl,rfl,hG3,i+1,by omega,by omega,by rw [zd3 hlt];exact oC3⟩,by simp;omega⟩
 ·have hge:i=ls.length:=by have:=of_decide_eq_false hb;omega
  subst hge
  rw [List.take_length] at oC
  have hC:=zau (c:=es.length+1) oC
  rw [zaQ] at hC
  unfold F4.B24 F4.L19
  refine ⟨fun x0 x32 x35 G'=>u=x0∧.slice (some ⟨bc,0,none⟩) es.length (es.length+1)=x32∧G=G'∧∃ e:Nat,x35=e∧e≤es.length,fun _ _ x35 _=>es.length-x35.toNat,⟨rfl,rfl,rfl,0,rfl,by omega⟩,?_⟩
  rintro x0 x32 x35 G' ⟨rfl,rfl,rfl,e,rfl,he⟩
  unfold F4.B23
  refine zba (zaa (fun hb=>?_) fun hb=>zzY (hBb.le hG) hl)
  have hlt:e<es.length:=by have:=of_decide_eq_true hb;omega
  unfold F4.B22
  refine hC.rd (by omega) (by rw [zaQ];omega) ?_
  rw [Int.toNat_natCast,htw e hlt]
  refine zaz rfl ?_
  unfold F4.B20
  rw [zad (by omega) (by omega)]
  exact ⟨⟨rfl,rfl,rfl,e+1,by omega,by omega⟩,by simp;omega⟩
theorem zz9 (hB:Byts H u l) (hl:l.length≤4096):F4.B40 QC36 u H:=by
 unfold F4.B40
 refine znG hB hl fun v n es w c G lG hS fw c1 c2 _ _=>zaB (zax (zag (zaf rfl fun H2 l2 n2 o2=>zaG (new:=[.int .i64 n,v]) o2 (by simp) (zaT (zbN hS)) rfl fun H3 b3 o3=>?_)))
 have l3:G.le H3:=b3.le l2 (Nat.le_refl _)
 have hE:=(zbg hS).le l3
 have hw:=fw.ints.le l3
 have l03:=AHeap.le_trans lG l3
 unfold F4.B39
 refine zac o3 rfl (zab o3 rfl (zmN hE (by omega) hw (by omega) fun x28 H4 l4 hF=>zaB (zag ?_)))
 have o4:=o3.le l4;have hE4:=hE.le l4;have hw4:=hw.le l4
 unfold F4.B38
 refine zac o4 rfl (zab o4 rfl (znh hE4 (by omega) hw4 (by omega) fun x30 H5 l5 hF2=>zaB (zag ?_)))
 have o5:=o4.le l5;have hE5:=hE4.le l5;have hF5:=hF.le l5
 have hB5:=hB.le (AHeap.le_trans l03 (AHeap.le_trans l4 l5))
 have sz:(fcList n es c).length≤60∧∀ r∈fcList n es c,r.length≤60:=by
  unfold fcList
  split
  ·rename_i h0
   obtain ⟨hg,hR⟩:=zgP h0
   have h30:es.length≤30:=by have:=hg.ed.len;have:=hg.ed.hi;omega
   have:=znr (es:=es) (r:=rF c)
   exact ⟨by omega,fun r hr=>by have:=zpb hg hr;omega⟩
  ·simp
 unfold F4.B37
 refine zaz (by simp) (zqo hF5 hF2 (by omega) (fun r hr=>by have:=sz.2 r hr;omega) (zai (zaz rfl ?_)))
 unfold F4.B35
 refine zaa (fun hs=>?_) fun _=>zzY hB5 hl
 have h0:rtCode n es c=0:=beq_iff_eq.1 hs
 obtain ⟨hg,hR⟩:=zgP h0
 have h30:es.length≤30:=by have:=hg.ed.len;have:=hg.ed.hi;omega
 have hfc:fcList n es c=facL es (rF c):=by unfold fcList;rw [if_pos h0]
 rw [hfc] at hF5
 unfold F4.B34
 refine zab o5 rfl (hE5.len (zaF (by omega) (by omega) (by decide) fun H6 l6 n6 o6=>?_))
 rw [Int.toNat_natCast,zb3] at o6
 rw [Int.toNat_natCast]
 exact zBD (x26:=0) (Hb:=H5) (hB5.le l6) hl hg (hF5.toR.le l6) o6 (Nat.le_refl _) l6 hF5.toR hB5
theorem zAH (hB:Byts H u l) (hl:l.length≤4096):F4.B56 QC36 u H:=by
 unfold F4.B56
 refine zit hB hl fun v n es w ls x ts G lG hS hR fx c1 c2 c3 c4=>zid (zax (zag (zaf rfl fun H2 l2 n2 o2=>zaG (new:=[.int .i64 n,v]) o2 (by simp) (zaT (zbN hS)) rfl fun H3 b3 o3=>?_)))
 have l3:G.le H3:=b3.le l2 (Nat.le_refl _)
 have hE:=(zbg hS).le l3
 have hr:=hR.toR.le l3
 have hx:=fx.ints.le l3
 have l03:=AHeap.le_trans lG l3
 have htot:=zke c3
 have htot2:ls.length*3000≤200*3000:=Nat.mul_le_mul_right _ c2
 unfold F4.B55
 refine zac o3 rfl (zab o3 rfl (znH hE (by omega) hr (by omega) hx (by omega) fun H4 l4=>zaB (zai (zag ?_))))
 have o4:=o3.le l4;have hE4:=hE.le l4;have hr4:=hr.le l4;have hx4:=hx.le l4
 unfold F4.B54
 refine zac o4 rfl (zab o4 rfl (zmq hE4 (by omega) hr4 (by omega) hx4 (by omega) fun H5 l5=>zaB (zai (zag ?_))))
 have o5:=o4.le l5;have hE5:=hE4.le l5;have hr5:=hr4.le l5;have hx5:=hx4.le l5
 have hB5:=hB.le (AHeap.le_trans l03 (AHeap.le_trans l4 l5))
 unfold F4.B53
 refine zaz (by simp) (zaz (by simp) ?_)
 unfold F4.B51
 refine zaa (fun hs=>?_) fun _=>zz9 hB5 hl
 have h0:otCode n es ls ts=0:=beq_iff_eq.1 hs
 obtain ⟨t1,t2,t3,t4⟩:=zyA h0
 have hT:=(ziC h0).2.2.1
 unfold F4.B50
 refine zaf rfl fun H6 l6 n6 o6=>?_
 unfold F4.B49 F4.L45
 refine ⟨fun x0 x13 x14 x15 x16 x20 x21 G'=>u=x0∧G.length=x13∧w=x14∧x=x15∧otB n es ls ts=x16∧H5.le G'∧H5.length≤G'.length∧∃ i:Nat,x21=i∧i≤ts.length∧Fresh H5.length G' x20 2 1 (LI ((ts.map fun t=>1-t).take i)),fun _ _ _ _ _ _ x21 _=>ts.length-x21.toNat,
  ⟨rfl,rfl,rfl,rfl,rfl,l6,l6.1,0,rfl,by omega,.inr ⟨_,0,Nat.le_refl _,rfl,o6,rfl⟩⟩,?_⟩
 rintro x0 x13 x14 x15 x16 x20 x21 G' ⟨rfl,rfl,rfl,rfl,rfl,lG',hlG',i,rfl,hi,f20⟩
 have hxG:=hx5.le lG'
 unfold F4.B48
 refine hxG.len (zaa (fun hb=>?_) fun hb=>?_)
 ·have hlt:i<ts.length:=by have:=of_decide_eq_true hb;omega
  have htr:=hT.2 i hlt
  unfold F4.B47
  refine hxG.rd (by omega) (by omega) ?_
  rw [Int.toNat_natCast,show IntKind.i64.wrap (1-ts.getD i 0)=1-ts.getD i 0 from zad (by omega) (by omega)]
  refine f20.sl.pushN zbl (by decide) hlG' (n:=1) (ys:=[.int .i64 (1-ts.getD i 0)]) rfl rfl (by simp;omega) (by simp) fun v6 G7 k7 _ _ f7=>?_
  unfold F4.B46
  rw [zad (by omega) (by omega)]
  refine ⟨⟨rfl,rfl,rfl,rfl,rfl,k7.le lG' (Nat.le_refl _),by have:=k7.len;omega,i+1,by omega,by omega,?_⟩,by show ts.length-((i:Int)+1).toNat<ts.length-(i:Int).toNat;omega⟩
  rw [List.take_succ_eq_append_getElem (by simpa using hlt),← zae (d:=0) (by simpa using hlt),zlx hlt,show ∀ (A:List Int) (x:Int),LI (A++[x])=LI A++[.int .i64 x] from fun A x=>by simp]
  exact f7
 ·have hie:i=ts.length:=by have:=of_decide_eq_false hb;omega
  subst hie
  rw [List.take_of_length_le (by simp)] at f20
  have o7:=o5.le lG';have hE7:=hE5.le lG';have hr7:=hr5.le lG'
  unfold F4.B44
  refine zac o7 rfl (zab o7 rfl (znH hE7 (by omega) hr7 (by omega) f20.ints (by rw [List.length_map];omega) fun H8 l8=>zaB (zai (zag ?_))))
  have o8:=o7.le l8;have hE8:=hE7.le l8;have hr8:=hr7.le l8
  unfold F4.B43
  refine zac o8 rfl (zab o8 rfl (zej hE8 (by omega) hr8 (by omega) fun H9 l9=>zaB (zai (zag ?_))))
  unfold F4.B42
  rw [t1,t2,t3,t4]
  exact zaz rfl (zaz rfl (zaz (by simp) (zaz rfl (zz9 (hB5.le (AHeap.le_trans lG' (AHeap.le_trans l8 l9))) hl))))
theorem znj (H:AHeap) (vs:List Value) (hv:AVs T0 H [22] vs):AC Tryz.prog T0 4 vs H (fun v _=>v=.bool true):=by
 obtain ⟨v0,vs,rfl,a0,rfl⟩:=hv
 obtain ⟨l,hB,hlen⟩:=zvs a0
 apply F4.ac
 unfold F4.B69 F4.B68
 refine zz1 hB (zai (zaa (fun _=>by unfold F4.B67;rfl) fun hs=>?_))
 have hl:l.length≤4096:=by have:=of_decide_eq_false hs;omega
 unfold F4.B66
 refine zqJ hB hl fun v n es w c G lG hS fw c1 c2 _ _=>zaB (zax (zag (zaf rfl fun H2 l2 n2 o2=>zaG (new:=[.int .i64 n,v]) o2 (by simp) (zaT (zbN hS)) rfl fun H3 b3 o3=>?_)))
 have l3:G.le H3:=b3.le l2 (Nat.le_refl _)
 have hE:=(zbg hS).le l3
 have hw:=fw.ints.le l3
 have l03:=AHeap.le_trans lG l3
 unfold F4.B65
 refine zac o3 rfl (zab o3 rfl (zns hE (by omega) hw (by omega) fun x5 H4 l4 hF=>zaB (zag ?_)))
 have o4:=o3.le l4;have hE4:=hE.le l4;have hw4:=hw.le l4
 unfold F4.B64
 refine zac o4 rfl (zab o4 rfl (zhB hE4 (by omega) hw4 (by omega) fun x7 H5 l5 hF2=>zaB (zag ?_)))
 have o5:=o4.le l5;have hE5:=hE4.le l5;have hF5:=hF.le l5
 have hB5:=hB.le (AHeap.le_trans l03 (AHeap.le_trans l4 l5))
 have hcl:=zuv (n:=n) (es:=es) (c:=c)
 unfold F4.B63
 refine zaz (by simp) (zqo hF5 hF2 (by omega) (fun r hr=>by have:=zoS hr;omega) (zai (zaz rfl ?_)))
 unfold F4.B61
 refine zaa (fun hs=>?_) fun _=>zAH hB5 hl
 have h0:covCode n es c=0:=beq_iff_eq.1 hs
 obtain ⟨hc,d0,d1⟩:=zqW h0
 have hg:=(zeT h0).1
 have h30:es.length≤30:=by have:=hg.ed.len;have:=hg.ed.hi;omega
 have htot:=zke (m:=30) fun r (hr:r∈covList n es c)=>by have:=zoS hr;omega
 have htot2:(covList n es c).length*30≤90*30:=Nat.mul_le_mul_right _ (by omega)
 unfold F4.B60
 refine zac o5 rfl (zab o5 rfl (zej hE5 (by omega) hF5.toR (by omega) fun H6 l6=>zaB (zai (zag ?_))))
 have o6:=o5.le l6;have hE6:=hE5.le l6
 unfold F4.B59
 refine zac o6 rfl (zab o6 rfl (zni hE6 (by omega) fun H7 l7=>zaB (zag (zag ?_))))
 have next:=zAH (hB5.le (AHeap.le_trans l6 l7)) hl
 unfold F4.B58
 rw [d0,d1]
 refine zaz rfl (zaz rfl (zaa (fun hp=>zaz (decide_eq_false (zAL hc (beq_iff_eq.1 hp))) next) fun _=>next))
end Go.Proofs
