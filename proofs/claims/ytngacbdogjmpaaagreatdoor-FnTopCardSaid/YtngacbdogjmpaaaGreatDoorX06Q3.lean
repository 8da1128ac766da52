/- Contracts and plain mathematics for a law, merged. -/
import Derived.Test.YtngacbdogjmpaaaGreatDoorX06Q2
set_option linter.unusedVariables false
set_option linter.unusedSimpArgs false
set_option maxRecDepth 100000
namespace Go.Proofs
open Go.Abs

variable {B H G G':AHeap} {b N:Nat} {L S M:List (Int × Int)} {cmp:Value} {c:(Int × Int)→(Int × Int)→Int} {dom:(Int × Int)→Prop} {K:Value→AHeap→Prop}

theorem swp_at1E {i j:Nat} (hi:i<L.length) (hj:j<L.length):(swp (0,0) L i j).getD i (0,0)=L.getD j (0,0):=by
 rw [swp_get hi hj]
 by_cases e:i=j
 ·rw [if_pos e,e]
 ·rw [if_neg e,if_pos rfl]
theorem swp_at2E {i j:Nat} (hi:i<L.length) (hj:j<L.length):(swp (0,0) L i j).getD j (0,0)=L.getD i (0,0):=by rw [swp_get hi hj,if_pos rfl]
theorem swp_offE {i j k:Nat} (hi:i<L.length) (hj:j<L.length) (h1:k≠i) (h2:k≠j):(swp (0,0) L i j).getD k (0,0)=L.getD k (0,0):=by rw [swp_get hi hj,if_neg h2,if_neg h1]
theorem partC_okE (E:SEE B b N cmp c dom) (h:SqE B H b N dom L) {a e p:Nat} (hap:a≤p) (hpe:p<e) (he:e≤N)
 (k:∀ G S mid q,Kb b H G→SqE B G b N dom S→Seg a e L S→a≤mid→mid<e→(∀ i,a≤i→i<mid→LeC c (S.getD i (0,0)) (S.getD mid (0,0)))→(∀ i,mid<i→i<e→LeC c (S.getD mid (0,0)) (S.getD i (0,0)))→K (.tuple ⟨[.int .i64 (mid:Nat),.bool q]⟩) G) :
 AC Tryz.prog T0 223 [sv b N,.int .i64 a,.int .i64 e,.int .i64 p,cmp] H K:=by
 have hN:=E.hN
 have hLl:=h.len
 apply F223.ac
 unfold F223.B28 F223.B27
 refine h.swap E (i:=a) (j:=p) (by omega) (by omega) rfl rfl fun G1 k1 s1=>?_
 obtain ⟨M,hM⟩:∃ M,M=swp (0,0) L a p:=⟨_,rfl⟩
 rw [← hM] at s1
 have g1:Seg a e L M:=by rw [hM];exact swp_seg (by omega) (by omega) (by omega) (by omega) (by omega)
 obtain ⟨P,hP⟩:∃ P,P=M.getD a (0,0):=⟨_,rfl⟩
 have hMl:=s1.len
 -- the end: the pivot is put between
 have fin:∀ (G:AHeap) (S:List (Int × Int)) (i j:Nat) (X:AHeap→Prop),Kb b H G→SqE B G b N dom S→Seg a e L S→S.getD a (0,0)=P→a+1≤i→i=j+1→j<e→(∀ q,a<q→q<i→c (S.getD q (0,0)) P<0)→(∀ q,j<q→q<e→¬ c (S.getD q (0,0)) P<0)→
  (∀ G',Kb b G G'→SqE B G' b N dom (swp (0,0) S j a)→(∀ q,K (.tuple ⟨[.int .i64 (j:Nat),.bool q]⟩) G')→X G')→
  swKE b N (j:Int) (a:Int) G X:=by
  intro G S i j X bG sS gS hSa hi hij hj hlt hge hX
  have hSl:=sS.len
  refine sS.swap E (i:=j) (j:=a) (by omega) (by omega) rfl rfl fun G2 k2 s2=>hX G2 k2 s2 fun q=>?_
  have e1:(swp (0,0) S j a).getD j (0,0)=P:=by rw [swp_at1E (by omega) (by omega),hSa]
  refine k G2 _ j q (bG.trans k2) s2 (gS.trans (swp_seg (by omega) (by omega) (by omega) (by omega) (by omega))) (by omega) hj (fun i' h1 h2=>?_) fun i' h1 h2=>?_
  ·rw [e1]
   by_cases e2:i'=a
   ·subst e2
    rw [swp_at2E (by omega) (by omega)]
    exact E.ord.lt (hlt j (by omega) (by omega))
   ·rw [swp_offE (by omega) (by omega) (by omega) e2]
    exact E.ord.lt (hlt i' (by omega) (by omega))
  ·rw [e1,swp_offE (by omega) (by omega) (by omega) (by omega)]
   exact hge i' h1 h2
 unfold F223.B26
 rw [wr (i:=a+1) (by omega) (by omega),wr (i:=e-1) (by omega) (by omega)]
 unfold F223.L23
 refine ⟨fun x0 x1 x4 x12 x13 G=>sv b N=x0∧(a:Int)=x1∧cmp=x4∧((e-1:Nat):Int)=x13∧Kb b H G∧SqE B G b N dom M∧∃ i:Nat,x12=i∧a+1≤i∧i≤e∧∀ q,a<q→q<i→c (M.getD q (0,0)) P<0,
  fun _ _ _ x12 _ _=>e-x12.toNat,⟨rfl,rfl,rfl,rfl,k1,s1,a+1,rfl,Nat.le_refl _,by omega,fun q h1 h2=>by omega⟩,?_⟩
 rintro x0 x1 x4 x12 x13 G ⟨rfl,rfl,rfl,rfl,bG,sG,i,rfl,hi,hie,hlt⟩
 -- behind the first search from the left
 have part2:∀ G,Kb b H G→SqE B G b N dom M→(i≤e-1→¬ c (M.getD i (0,0)) P<0)→F223.L20 K (sv b N) a cmp i ((e-1:Nat):Int) G:=by
  intro G bG sG hstop
  unfold F223.L20
  refine ⟨fun x0 x1 x4 x12 x13 G=>sv b N=x0∧(a:Int)=x1∧cmp=x4∧(i:Int)=x12∧Kb b H G∧SqE B G b N dom M∧∃ j:Nat,x13=j∧a≤j∧i≤j+1∧j<e∧∀ q,j<q→q<e→¬ c (M.getD q (0,0)) P<0,
   fun _ _ _ _ x13 _=>x13.toNat,⟨rfl,rfl,rfl,rfl,bG,sG,e-1,rfl,by omega,by omega,by omega,fun q h1 h2=>by omega⟩,?_⟩
  rintro x0 x1 x4 x12 x13 G ⟨rfl,rfl,rfl,rfl,bG,sG,j,rfl,haj,hij,hje,hge⟩
  have b19:∀ G,Kb b H G→SqE B G b N dom M→(i≤j→c (M.getD j (0,0)) P<0)→F223.B19 K (sv b N) a cmp i j G:=by
   intro G bG sG hj2
   unfold F223.B19
   refine pif_cases (fun hb=>?_) fun hb=>?_
   ·have hgt:=of_decide_eq_true hb
    unfold F223.B18
    refine fin G M i j _ bG sG g1 hP.symm hi (by omega) hje hlt hge fun G' k2 s2 hK=>?_
    unfold F223.B17
    exact hK true
   ·have hle:=of_decide_eq_false hb
    have hlij:i≤j:=by omega
    have hjP:=hj2 hlij
    have hiP:=hstop (by omega)
    have hne:i≠j:=fun h=>by rw [h] at hiP;exact hiP hjP
    unfold F223.B16
    refine sG.swap E (i:=i) (j:=j) (by omega) (by omega) rfl rfl fun G2 k2 s2=>?_
    unfold F223.B15
    rw [wr (i:=i+1) (by omega) (by omega)]
    unfold F223.B14
    rw [wr (i:=j-1) (by omega) (by omega)]
    -- the loop
    unfold F223.L3
    refine ⟨fun x0 x1 x4 x12 x13 G=>sv b N=x0∧(a:Int)=x1∧cmp=x4∧Kb b H G∧∃ (i j:Nat) (S:List (Int × Int)),x12=i∧x13=j∧a+1≤i∧i≤j+1∧j<e∧SqE B G b N dom S∧Seg a e L S∧S.getD a (0,0)=P∧(∀ q,a<q→q<i→c (S.getD q (0,0)) P<0)∧∀ q,j<q→q<e→¬ c (S.getD q (0,0)) P<0,
     fun _ _ _ x12 x13 _=>x13.toNat+1-x12.toNat,⟨rfl,rfl,rfl,bG.trans k2,i+1,j-1,_,rfl,rfl,by omega,by omega,by omega,s2,g1.trans (swp_seg (by omega) (by omega) (by omega) (by omega) (by omega)),?_,?_,?_⟩,?_⟩
    ·rw [swp_offE (by omega) (by omega) (by omega) (by omega),hP]
    ·intro q h1 h2
     by_cases e1:q=i
     ·subst e1;rw [swp_at1E (by omega) (by omega)];exact hjP
     ·rw [swp_offE (by omega) (by omega) e1 (by omega)];exact hlt q h1 (by omega)
    ·intro q h1 h2
     by_cases e1:q=j
     ·subst e1;rw [swp_at2E (by omega) (by omega)];exact hiP
     ·rw [swp_offE (by omega) (by omega) (by omega) e1];exact hge q (by omega) h2
    clear hge hlt hjP hiP hj2 hstop bG sG k2 s2 hle hlij hne hb hij haj hje hi hie
    rintro x0 x1 x4 x12 x13 G ⟨rfl,rfl,rfl,bG,i,j,S,rfl,rfl,hi,hij,hje,sS,gS,hSa,hlt,hge⟩
    have hSl:=sS.len
    unfold F223.L11
    refine ⟨fun x0 x1 x4 x12 x13 G=>sv b N=x0∧(a:Int)=x1∧cmp=x4∧(j:Int)=x13∧Kb b H G∧SqE B G b N dom S∧∃ i':Nat,x12=i'∧i≤i'∧i'≤j+1∧∀ q,a<q→q<i'→c (S.getD q (0,0)) P<0,
     fun _ _ _ x12 _ _=>j+1-x12.toNat,⟨rfl,rfl,rfl,rfl,bG,sS,i,rfl,Nat.le_refl _,hij,hlt⟩,?_⟩
    clear bG sS hlt
    rintro x0 x1 x4 x12 x13 G ⟨rfl,rfl,rfl,rfl,bG,sS,i',rfl,hii,hij',hlt⟩
    have inner:∀ G,Kb b H G→SqE B G b N dom S→(i'≤j→¬ c (S.getD i' (0,0)) P<0)→∀ N3:Value→Int→Value→Int→Int→AHeap→Prop,
     (∀ G' i2 j2 S2,Kb b H G'→a+1≤i2→i2≤j2+1→j2<e→SqE B G' b N dom S2→Seg a e L S2→S2.getD a (0,0)=P→(∀ q,a<q→q<i2→c (S2.getD q (0,0)) P<0)→(∀ q,j2<q→q<e→¬ c (S2.getD q (0,0)) P<0)→j2+1-i2<j+1-i→N3 (sv b N) a cmp (i2:Nat) (j2:Nat) G')→
     F223.L8 K N3 (sv b N) a cmp i' j G:=by
     intro G bG sS hstop N3 hN3
     unfold F223.L8
     refine ⟨fun x0 x1 x4 x12 x13 G=>sv b N=x0∧(a:Int)=x1∧cmp=x4∧(i':Int)=x12∧Kb b H G∧SqE B G b N dom S∧∃ j':Nat,x13=j'∧j'≤j∧i'≤j'+1∧∀ q,j'<q→q<e→¬ c (S.getD q (0,0)) P<0,
      fun _ _ _ _ x13 _=>x13.toNat,⟨rfl,rfl,rfl,rfl,bG,sS,j,rfl,Nat.le_refl _,hij',hge⟩,?_⟩
     clear bG sS hge
     rintro x0 x1 x4 x12 x13 G ⟨rfl,rfl,rfl,rfl,bG,sS,j',rfl,hjj,hij2,hge⟩
     have b7:∀ G,Kb b H G→SqE B G b N dom S→(i'≤j'→c (S.getD j' (0,0)) P<0)→F223.B7 K N3 (sv b N) a cmp i' j' G:=by
      intro G bG sS hj2
      unfold F223.B7
      refine pif_cases (fun hb=>?_) fun hb=>?_
      ·have hgt:=of_decide_eq_true hb
       unfold F223.B2
       refine fin G S i' j' _ bG sS gS hSa (by omega) (by omega) (by omega) hlt hge fun G' k2 s2 hK=>?_
       unfold F223.B1
       exact hK false
      ·have hle:=of_decide_eq_false hb
       have hlij:i'≤j':=by omega
       have hjP:=hj2 hlij
       have hiP:=hstop (by omega)
       have hne:i'≠j':=fun h=>by rw [h] at hiP;exact hiP hjP
       unfold F223.B6
       refine sS.swap E (i:=i') (j:=j') (by omega) (by omega) rfl rfl fun G2 k2 s2=>?_
       unfold F223.B5
       rw [wr (i:=i'+1) (by omega) (by omega)]
       unfold F223.B4
       rw [wr (i:=j'-1) (by omega) (by omega)]
       refine hN3 G2 (i'+1) (j'-1) _ (bG.trans k2) (by omega) (by omega) (by omega) s2 (gS.trans (swp_seg (by omega) (by omega) (by omega) (by omega) (by omega))) ?_ ?_ ?_ (by omega)
       ·rw [swp_offE (by omega) (by omega) (by omega) (by omega),hSa]
       ·intro q h1 h2
        by_cases e1:q=i'
        ·subst e1;rw [swp_at1E (by omega) (by omega)];exact hjP
        ·rw [swp_offE (by omega) (by omega) e1 (by omega)];exact hlt q h1 (by omega)
       ·intro q h1 h2
        by_cases e1:q=j'
        ·subst e1;rw [swp_at2E (by omega) (by omega)];exact hiP
        ·rw [swp_offE (by omega) (by omega) (by omega) e1];exact hge q (by omega) h2
     unfold F223.B10
     refine pif_cases (fun hb=>?_) fun hb=>?_
     ·have hle:=of_decide_eq_true hb
      refine sS.less E (i:=j') (j:=a) (by omega) (by omega) rfl rfl fun G1 r l1 s1 hr=>?_
      rw [hSa] at hr
      refine pif_cases (fun hq=>?_) fun hq=>?_
      ·have hn:¬ c (S.getD j' (0,0)) P<0:=fun hc=>by rw [decide_eq_true (hr.2 hc)] at hq;cases hq
       unfold F223.B9
       rw [wr (i:=j'-1) (by omega) (by omega)]
       refine ⟨⟨rfl,rfl,rfl,rfl,bG.trans (Kb.of_le l1),s1,j'-1,rfl,by omega,by omega,fun q h1 h2=>?_⟩,?_⟩
       ·by_cases e1:q=j'
        ·subst e1;exact hn
        ·exact hge q (by omega) h2
       ·show ((j'-1:Nat):Int).toNat<((j':Nat):Int).toNat
        omega
      ·exact b7 G1 (bG.trans (Kb.of_le l1)) s1 fun _=>hr.1 (by simpa using hq)
     ·have hgt:=of_decide_eq_false hb
      exact b7 G bG sS fun h=>by omega
    have hN3:∀ G' i2 j2 S2,Kb b H G'→a+1≤i2→i2≤j2+1→j2<e→SqE B G' b N dom S2→Seg a e L S2→S2.getD a (0,0)=P→(∀ q,a<q→q<i2→c (S2.getD q (0,0)) P<0)→(∀ q,j2<q→q<e→¬ c (S2.getD q (0,0)) P<0)→j2+1-i2<j+1-i→
     (sv b N=sv b N∧(a:Int)=a∧cmp=cmp∧Kb b H G'∧∃ (i j:Nat) (S:List (Int × Int)),(i2:Int)=i∧(j2:Int)=j∧a+1≤i∧i≤j+1∧j<e∧SqE B G' b N dom S∧Seg a e L S∧S.getD a (0,0)=P∧(∀ q,a<q→q<i→c (S.getD q (0,0)) P<0)∧∀ q,j<q→q<e→¬ c (S.getD q (0,0)) P<0)∧(j2:Int).toNat+1-(i2:Int).toNat<(j:Int).toNat+1-(i:Int).toNat:=
     fun G' i2 j2 S2 h1 h2 h3 h4 h5 h6 h7 h8 h9 h10=>⟨⟨rfl,rfl,rfl,h1,i2,j2,S2,rfl,rfl,h2,h3,h4,h5,h6,h7,h8,h9⟩,by omega⟩
    unfold F223.B13
    refine pif_cases (fun hb=>?_) fun hb=>?_
    ·have hle:=of_decide_eq_true hb
     refine sS.less E (i:=i') (j:=a) (by omega) (by omega) rfl rfl fun G1 r l1 s1 hr=>?_
     rw [hSa] at hr
     refine pif_cases (fun hq=>?_) fun hq=>?_
     ·have hc:=hr.1 (of_decide_eq_true hq)
      unfold F223.B12
      rw [wr (i:=i'+1) (by omega) (by omega)]
      refine ⟨⟨rfl,rfl,rfl,rfl,bG.trans (Kb.of_le l1),s1,i'+1,rfl,by omega,by omega,fun q h1 h2=>?_⟩,?_⟩
      ·by_cases e1:q=i'
       ·subst e1;exact hc
       ·exact hlt q h1 (by omega)
      ·show j+1-((i'+1:Nat):Int).toNat<j+1-((i':Nat):Int).toNat
       omega
     ·exact inner G1 (bG.trans (Kb.of_le l1)) s1 (fun _ hc=>of_decide_eq_false hq (hr.2 hc)) _ hN3
    ·have hgt:=of_decide_eq_false hb
     exact inner G bG sS (fun h=>by omega) _ hN3
  unfold F223.B22
  refine pif_cases (fun hb=>?_) fun hb=>?_
  ·have hle:=of_decide_eq_true hb
   refine sG.less E (i:=j) (j:=a) (by omega) (by omega) rfl rfl fun G1 r l1 s1 hr=>?_
   rw [← hP] at hr
   refine pif_cases (fun hq=>?_) fun hq=>?_
   ·have hn:¬ c (M.getD j (0,0)) P<0:=fun hc=>by rw [decide_eq_true (hr.2 hc)] at hq;cases hq
    unfold F223.B21
    rw [wr (i:=j-1) (by omega) (by omega)]
    refine ⟨⟨rfl,rfl,rfl,rfl,bG.trans (Kb.of_le l1),s1,j-1,rfl,by omega,by omega,by omega,fun q h1 h2=>?_⟩,?_⟩
    ·by_cases e1:q=j
     ·subst e1;exact hn
     ·exact hge q (by omega) h2
    ·show ((j-1:Nat):Int).toNat<((j:Nat):Int).toNat
     omega
   ·exact b19 G1 (bG.trans (Kb.of_le l1)) s1 fun _=>hr.1 (by simpa using hq)
  ·have hgt:=of_decide_eq_false hb
   exact b19 G bG sG fun h=>by omega
 unfold F223.B25
 refine pif_cases (fun hb=>?_) fun hb=>?_
 ·have hle:=of_decide_eq_true hb
  refine sG.less E (i:=i) (j:=a) (by omega) (by omega) rfl rfl fun G1 r l1 s1' hr=>?_
  rw [← hP] at hr
  refine pif_cases (fun hq=>?_) fun hq=>?_
  ·have hc:=hr.1 (of_decide_eq_true hq)
   unfold F223.B24
   rw [wr (i:=i+1) (by omega) (by omega)]
   refine ⟨⟨rfl,rfl,rfl,rfl,bG.trans (Kb.of_le l1),s1',i+1,rfl,by omega,by omega,fun q h1 h2=>?_⟩,?_⟩
   ·by_cases e1:q=i
    ·subst e1;exact hc
    ·exact hlt q h1 (by omega)
   ·show e-((i+1:Nat):Int).toNat<e-((i:Nat):Int).toNat
    omega
  ·exact part2 G1 (bG.trans (Kb.of_le l1)) s1' fun _ hc=>of_decide_eq_false hq (hr.2 hc)
 ·have hgt:=of_decide_eq_false hb
  exact part2 G bG sG fun h=>by omega
theorem partEq_okE (E:SEE B b N cmp c dom) (h:SqE B H b N dom L) {a e p:Nat} (hap:a≤p) (hpe:p<e) (he:e≤N)
 (k:∀ G S mid,Kb b H G→SqE B G b N dom S→Seg a e L S→a<mid→mid≤e→(∀ i,a≤i→i<mid→LeC c (S.getD i (0,0)) (L.getD p (0,0)))→K (.int .i64 (mid:Nat)) G) :
 AC Tryz.prog T0 222 [sv b N,.int .i64 a,.int .i64 e,.int .i64 p,cmp] H K:=by
 have hN:=E.hN
 have hLl:=h.len
 apply F222.ac
 unfold F222.B15 F222.B14
 refine h.swap E (i:=a) (j:=p) (by omega) (by omega) rfl rfl fun G1 k1 s1=>?_
 obtain ⟨P,hP⟩:∃ P,P=L.getD p (0,0):=⟨_,rfl⟩
 rw [← hP] at k
 unfold F222.B13
 rw [wr (i:=a+1) (by omega) (by omega),wr (i:=e-1) (by omega) (by omega)]
 unfold F222.L2
 refine ⟨fun x0 x1 x4 x11 x12 G=>sv b N=x0∧(a:Int)=x1∧cmp=x4∧Kb b H G∧∃ (i j:Nat) (S:List (Int × Int)),x11=i∧x12=j∧a+1≤i∧i≤j+1∧j<e∧SqE B G b N dom S∧Seg a e L S∧S.getD a (0,0)=P∧∀ q,a<q→q<i→LeC c (S.getD q (0,0)) P,
  fun _ _ _ x11 x12 _=>x12.toNat+1-x11.toNat,⟨rfl,rfl,rfl,k1,a+1,e-1,_,rfl,rfl,by omega,by omega,by omega,s1,swp_seg (by omega) (by omega) (by omega) (by omega) (by omega),by rw [swp_at1E (by omega) (by omega),hP],fun q h1 h2=>by omega⟩,?_⟩
 rintro x0 x1 x4 x11 x12 G ⟨rfl,rfl,rfl,bG,i,j,S,rfl,rfl,hi,hij,hje,sS,gS,hSa,hlt⟩
 have hSl:=sS.len
 unfold F222.L10
 refine ⟨fun x0 x1 x4 x11 x12 G=>sv b N=x0∧(a:Int)=x1∧cmp=x4∧(j:Int)=x12∧Kb b H G∧SqE B G b N dom S∧∃ i':Nat,x11=i'∧i≤i'∧i'≤j+1∧∀ q,a<q→q<i'→LeC c (S.getD q (0,0)) P,
  fun _ _ _ x11 _ _=>j+1-x11.toNat,⟨rfl,rfl,rfl,rfl,bG,sS,i,rfl,Nat.le_refl _,hij,hlt⟩,?_⟩
 clear bG sS hlt
 rintro x0 x1 x4 x11 x12 G ⟨rfl,rfl,rfl,rfl,bG,sS,i',rfl,hii,hij',hlt⟩
 have inner:∀ G,Kb b H G→SqE B G b N dom S→(i'≤j→c P (S.getD i' (0,0))<0)→∀ N2:Value→Int→Value→Int→Int→AHeap→Prop,
  (∀ G' i2 j2 S2,Kb b H G'→a+1≤i2→i2≤j2+1→j2<e→SqE B G' b N dom S2→Seg a e L S2→S2.getD a (0,0)=P→(∀ q,a<q→q<i2→LeC c (S2.getD q (0,0)) P)→j2+1-i2<j+1-i→N2 (sv b N) a cmp (i2:Nat) (j2:Nat) G')→
  F222.L7 K N2 (sv b N) a cmp i' j G:=by
  intro G bG sS hstop N2 hN2
  unfold F222.L7
  refine ⟨fun x0 x1 x4 x11 x12 G=>sv b N=x0∧(a:Int)=x1∧cmp=x4∧(i':Int)=x11∧Kb b H G∧SqE B G b N dom S∧∃ j':Nat,x12=j'∧j'≤j∧i'≤j'+1,
   fun _ _ _ _ x12 _=>x12.toNat,⟨rfl,rfl,rfl,rfl,bG,sS,j,rfl,Nat.le_refl _,hij'⟩,?_⟩
  clear bG sS
  rintro x0 x1 x4 x11 x12 G ⟨rfl,rfl,rfl,rfl,bG,sS,j',rfl,hjj,hij2⟩
  have b6:∀ G,Kb b H G→SqE B G b N dom S→(i'≤j'→LeC c (S.getD j' (0,0)) P)→F222.B6 K N2 (sv b N) a cmp i' j' G:=by
   intro G bG sS hj2
   unfold F222.B6
   refine pif_cases (fun hb=>?_) fun hb=>?_
   ·have hgt:=of_decide_eq_true hb
    unfold F222.B1
    refine k G S i' bG sS gS (by omega) (by omega) fun q h1 h2=>?_
    by_cases e1:q=a
    ·rw [e1,hSa];exact E.ord.rfl _
    ·exact hlt q (by omega) h2
   ·have hle:=of_decide_eq_false hb
    have hlij:i'≤j':=by omega
    have hjP:=hj2 hlij
    unfold F222.B5
    refine sS.swap E (i:=i') (j:=j') (by omega) (by omega) rfl rfl fun G2 k2 s2=>?_
    unfold F222.B4
    rw [wr (i:=i'+1) (by omega) (by omega)]
    unfold F222.B3
    rw [wr (i:=j'-1) (by omega) (by omega)]
    have hne:i'≠j':=fun h=>by rw [← h] at hjP;exact hjP (hstop (by omega))
    refine hN2 G2 (i'+1) (j'-1) _ (bG.trans k2) (by omega) (by omega) (by omega) s2 (gS.trans (swp_seg (by omega) (by omega) (by omega) (by omega) (by omega))) ?_ ?_ (by omega)
    ·rw [swp_offE (by omega) (by omega) (by omega) (by omega),hSa]
    ·intro q h1 h2
     by_cases e1:q=i'
     ·subst e1;rw [swp_at1E (by omega) (by omega)];exact hjP
     ·rw [swp_offE (by omega) (by omega) e1 (by omega)];exact hlt q h1 (by omega)
  unfold F222.B9
  refine pif_cases (fun hb=>?_) fun hb=>?_
  ·have hle:=of_decide_eq_true hb
   refine sS.less E (i:=a) (j:=j') (by omega) (by omega) rfl rfl fun G1 r l1 s1 hr=>?_
   rw [hSa] at hr
   refine pif_cases (fun hq=>?_) fun hq=>?_
   ·unfold F222.B8
    rw [wr (i:=j'-1) (by omega) (by omega)]
    refine ⟨⟨rfl,rfl,rfl,rfl,bG.trans (Kb.of_le l1),s1,j'-1,rfl,by omega,by omega⟩,?_⟩
    show ((j'-1:Nat):Int).toNat<((j':Nat):Int).toNat
    omega
   ·exact b6 G1 (bG.trans (Kb.of_le l1)) s1 fun _ hc=>of_decide_eq_false hq (hr.2 hc)
  ·have hgt:=of_decide_eq_false hb
   exact b6 G bG sS fun h=>by omega
 have hN2:∀ G' i2 j2 S2,Kb b H G'→a+1≤i2→i2≤j2+1→j2<e→SqE B G' b N dom S2→Seg a e L S2→S2.getD a (0,0)=P→(∀ q,a<q→q<i2→LeC c (S2.getD q (0,0)) P)→j2+1-i2<j+1-i→
  (sv b N=sv b N∧(a:Int)=a∧cmp=cmp∧Kb b H G'∧∃ (i j:Nat) (S:List (Int × Int)),(i2:Int)=i∧(j2:Int)=j∧a+1≤i∧i≤j+1∧j<e∧SqE B G' b N dom S∧Seg a e L S∧S.getD a (0,0)=P∧∀ q,a<q→q<i→LeC c (S.getD q (0,0)) P)∧(j2:Int).toNat+1-(i2:Int).toNat<(j:Int).toNat+1-(i:Int).toNat:=
  fun G' i2 j2 S2 h1 h2 h3 h4 h5 h6 h7 h8 h9=>⟨⟨rfl,rfl,rfl,h1,i2,j2,S2,rfl,rfl,h2,h3,h4,h5,h6,h7,h8⟩,by omega⟩
 unfold F222.B12
 refine pif_cases (fun hb=>?_) fun hb=>?_
 ·have hle:=of_decide_eq_true hb
  refine sS.less E (i:=a) (j:=i') (by omega) (by omega) rfl rfl fun G1 r l1 s1 hr=>?_
  rw [hSa] at hr
  refine pif_cases (fun hq=>?_) fun hq=>?_
  ·have hn:LeC c (S.getD i' (0,0)) P:=fun hc=>by rw [decide_eq_true (hr.2 hc)] at hq;cases hq
   unfold F222.B11
   rw [wr (i:=i'+1) (by omega) (by omega)]
   refine ⟨⟨rfl,rfl,rfl,rfl,bG.trans (Kb.of_le l1),s1,i'+1,rfl,by omega,by omega,fun q h1 h2=>?_⟩,?_⟩
   ·by_cases e1:q=i'
    ·subst e1;exact hn
    ·exact hlt q h1 (by omega)
   ·show j+1-((i'+1:Nat):Int).toNat<j+1-((i':Nat):Int).toNat
    omega
  ·exact inner G1 (bG.trans (Kb.of_le l1)) s1 (fun _=>hr.1 (by simpa using hq)) _ hN2
 ·have hgt:=of_decide_eq_false hb
  exact inner G bG sS (fun h=>by omega) _ hN2
end Go.Proofs
namespace Go.Proofs
open Go.Abs

variable {B H G G':AHeap} {b N:Nat} {L S M:List (Int × Int)} {cmp:Value} {c:(Int × Int)→(Int × Int)→Int} {dom:(Int × Int)→Prop} {K:Value→AHeap→Prop}

def PreAE (c:(Int × Int)→(Int × Int)→Int) (a e:Nat) (L:List (Int × Int)):Prop:=0<a→∀ q,a≤q→q<e→LeC c (L.getD (a-1) (0,0)) (L.getD q (0,0))
theorem PreAE.seg {a e:Nat} (h:PreAE c a e L) (hs:Seg a e L S) (he:e≤L.length):PreAE c a e S:=fun h0 q h1 h2=>by
 rw [hs.outD (i:=a-1) (.inl (by omega))]
 exact hs.all (d:=(0,0)) (Q:=fun x=>LeC c (L.getD (a-1) (0,0)) x) he (h h0) q h1 h2
theorem sorted_extE {a i:Nat} (hc:Cmp c) (h:SortedIn (0,0) c a i S) (hn:a<i→LeC c (S.getD (i-1) (0,0)) (S.getD i (0,0))):SortedIn (0,0) c a (i+1) S:=by
 intro p q h1 h2 h3
 by_cases e:q=i
 ·subst e
  have hn:=hn (by omega)
  by_cases e2:p=q-1
  ·rw [e2];exact hn
  ·exact hc.tr _ _ _ (h p (q-1) h1 (by omega) (by omega)) hn
 ·exact h p q h1 h2 (by omega)
theorem sorted_keepE {a i:Nat} (h:SortedIn (0,0) c a i S) (hs:∀ q,q<i→M.getD q (0,0)=S.getD q (0,0)):SortedIn (0,0) c a i M:=fun p q h1 h2 h3=>by
 rw [hs p (by omega),hs q h3];exact h p q h1 h2 h3
theorem partIns_okE (E:SEE B b N cmp c dom) (h:SqE B H b N dom L) {a e:Nat} (ha:a<e) (he:e≤N) (hp:PreAE c a e L)
 (k:∀ G S q,Kb b H G→SqE B G b N dom S→Seg a e L S→(q=true→SortedIn (0,0) c a e S)→K (.bool q) G) :
 AC Tryz.prog T0 221 [sv b N,.int .i64 a,.int .i64 e,cmp] H K:=by
 have hN:=E.hN
 have hLl:=h.len
 apply F221.ac
 unfold F221.B29 F221.B28
 rw [wr (i:=a+1) (by omega) (by omega)]
 unfold F221.B27 F221.L2
 refine ⟨fun x0 x1 x2 x3 x9 x10 G=>sv b N=x0∧(a:Int)=x1∧(e:Int)=x2∧cmp=x3∧Kb b H G∧∃ (i m:Nat) (S:List (Int × Int)),x9=i∧x10=m∧m≤5∧a+1≤i∧i≤e∧SqE B G b N dom S∧Seg a e L S∧SortedIn (0,0) c a i S,
  fun _ _ _ _ _ x10 _=>5-x10.toNat,⟨rfl,rfl,rfl,rfl,.refl,a+1,0,L,rfl,rfl,by omega,by omega,by omega,h,.refl,fun p q h1 h2 h3=>by omega⟩,?_⟩
 rintro x0 x1 x2 x3 x9 x10 G ⟨rfl,rfl,rfl,rfl,bG,i,m,S,rfl,rfl,hm,hi,hie,sS,gS,hS⟩
 unfold F221.B26
 refine pif_cases (fun hb=>?_) fun hb=>?_
 rotate_left
 ·unfold F221.B1
  exact k G S false bG sS gS fun h=>by cases h
 have hm5:m<5:=by have:=of_decide_eq_true hb;omega
 unfold F221.L23
 refine ⟨fun x0 x1 x2 x3 x9 x10 G=>sv b N=x0∧(a:Int)=x1∧(e:Int)=x2∧cmp=x3∧(m:Int)=x10∧Kb b H G∧SqE B G b N dom S∧∃ i':Nat,x9=i'∧a+1≤i'∧i'≤e∧SortedIn (0,0) c a i' S,
  fun _ _ _ _ x9 _ _=>e-x9.toNat,⟨rfl,rfl,rfl,rfl,rfl,bG,sS,i,rfl,hi,hie,hS⟩,?_⟩
 clear hS bG sS hie hi hb
 rintro x0 x1 x2 x3 x9 x10 G ⟨rfl,rfl,rfl,rfl,rfl,bG,sS,i,rfl,hi,hie,hS⟩
 have hSl:=sS.len
 have b22:∀ G,Kb b H G→SqE B G b N dom S→F221.B22 K (fun x0 x1 x2 x3 x9 x10 G'=>(sv b N=x0∧(a:Int)=x1∧(e:Int)=x2∧cmp=x3∧Kb b H G'∧∃ (i m:Nat) (S:List (Int × Int)),x9=i∧x10=m∧m≤5∧a+1≤i∧i≤e∧SqE B G' b N dom S∧Seg a e L S∧SortedIn (0,0) c a i S)∧5-x10.toNat<5-(m:Int).toNat) (sv b N) a e cmp i m G:=by
  intro G bG sS
  unfold F221.B22
  refine pif_cases (fun hb=>?_) fun hb=>?_
  ·have he2:i=e:=by have:=beq_iff_eq.1 hb;omega
   unfold F221.B21
   exact k G S true bG sS gS fun _=>by rw [← he2];exact hS
  have hlt:i<e:=by have:=beq_eq_false_iff_ne.1 hb;omega
  unfold F221.B20
  refine pif_cases (fun hb=>?_) fun hb=>?_
  ·unfold F221.B19
   exact k G S false bG sS gS fun h=>by cases h
  unfold F221.B18
  refine sS.swap E (i:=i) (j:=i-1) (by omega) (by omega) rfl (wr (by omega) (by omega)) fun G2 k2 s2=>?_
  obtain ⟨S2,hS2⟩:∃ S2,S2=swp (0,0) S i (i-1):=⟨_,rfl⟩
  rw [← hS2] at s2
  have g2:Seg a e L S2:=by rw [hS2];exact gS.trans (swp_seg (by omega) (by omega) (by omega) (by omega) (by omega))
  have k3:∀ G S',Kb b H G→SqE B G b N dom S'→Seg a e L S'→SortedIn (0,0) c a i S'→F221.B3 K (fun x0 x1 x2 x3 x9 x10 G'=>(sv b N=x0∧(a:Int)=x1∧(e:Int)=x2∧cmp=x3∧Kb b H G'∧∃ (i m:Nat) (S:List (Int × Int)),x9=i∧x10=m∧m≤5∧a+1≤i∧i≤e∧SqE B G' b N dom S∧Seg a e L S∧SortedIn (0,0) c a i S)∧5-x10.toNat<5-(m:Int).toNat) (sv b N) a e cmp i m G:=by
   intro G S' h1 h2 h3 h4
   unfold F221.B3
   rw [wr (i:=m+1) (by omega) (by omega)]
   refine ⟨⟨rfl,rfl,rfl,rfl,h1,i,m+1,S',rfl,rfl,by omega,hi,hie,h2,h3,h4⟩,?_⟩
   show 5-((m+1:Nat):Int).toNat<5-((m:Nat):Int).toNat
   omega
  have k10:∀ G S',Kb b H G→SqE B G b N dom S'→Seg a e L S'→SortedIn (0,0) c a i S'→F221.B10 K (fun x0 x1 x2 x3 x9 x10 G'=>(sv b N=x0∧(a:Int)=x1∧(e:Int)=x2∧cmp=x3∧Kb b H G'∧∃ (i m:Nat) (S:List (Int × Int)),x9=i∧x10=m∧m≤5∧a+1≤i∧i≤e∧SqE B G' b N dom S∧Seg a e L S∧SortedIn (0,0) c a i S)∧5-x10.toNat<5-(m:Int).toNat) (sv b N) a e cmp i m G:=by
   intro G S' h1 h2 h3 h4
   unfold F221.B10
   refine pif_cases (fun hb=>?_) fun hb=>k3 G S' h1 h2 h3 h4
   unfold F221.B9
   rw [wr (i:=i+1) (by omega) (by omega)]
   unfold F221.L4
   refine ⟨fun x0 x1 x2 x3 x9 x10 x12 G=>sv b N=x0∧(a:Int)=x1∧(e:Int)=x2∧cmp=x3∧(i:Int)=x9∧(m:Int)=x10∧Kb b H G∧∃ (j:Nat) (S':List (Int × Int)),x12=j∧i+1≤j∧j≤e∧SqE B G b N dom S'∧Seg a e L S'∧SortedIn (0,0) c a i S',
    fun _ _ _ _ _ _ x12 _=>e-x12.toNat,⟨rfl,rfl,rfl,rfl,rfl,rfl,h1,i+1,S',rfl,Nat.le_refl _,by omega,h2,h3,h4⟩,?_⟩
   clear h1 h2 h3 h4
   rintro x0 x1 x2 x3 x9 x10 x12 G ⟨rfl,rfl,rfl,rfl,rfl,rfl,h1,j,S',rfl,hj,hje,h2,h3,h4⟩
   have hSl':=h2.len
   unfold F221.B8
   refine pif_cases (fun hb=>?_) fun hb=>k3 G S' h1 h2 h3 h4
   have hjl:j<e:=by have:=of_decide_eq_true hb;omega
   unfold F221.B7
   refine h2.less E (i:=j) (j:=j-1) (by omega) (by omega) rfl (wr (by omega) (by omega)) fun G3 r l3 s3 hr=>pif_cases (fun hq=>?_) fun hq=>?_
   ·exact k3 G3 S' (h1.trans (Kb.of_le l3)) s3 h3 h4
   ·unfold F221.B6
    refine s3.swap E (i:=j) (j:=j-1) (by omega) (by omega) rfl (wr (by omega) (by omega)) fun G4 k4 s4=>?_
    unfold F221.B5
    rw [wr (i:=j+1) (by omega) (by omega)]
    refine ⟨⟨rfl,rfl,rfl,rfl,rfl,rfl,h1.trans ((Kb.of_le l3).trans k4),j+1,_,rfl,by omega,by omega,s4,h3.trans (swp_seg (by omega) (by omega) (by omega) (by omega) (by omega)),sorted_keepE h4 fun q hq=>swp_offE (by omega) (by omega) (by omega) (by omega)⟩,?_⟩
    show e-((j+1:Nat):Int).toNat<e-((j:Nat):Int).toNat
    omega
  unfold F221.B17
  rw [wr (i:=i-a) (by omega) (by omega)]
  refine pif_cases (fun hb=>?_) fun hb=>?_
  rotate_left
  ·have hia:i=a+1:=by have:=of_decide_eq_false hb;omega
   exact k10 G2 S2 (bG.trans k2) s2 g2 fun p q h1 h2 h3=>by omega
  unfold F221.B16
  rw [wr (i:=i-1) (by omega) (by omega)]
  unfold F221.L11
  refine ⟨fun x0 x1 x2 x3 x9 x10 x11 G=>sv b N=x0∧(a:Int)=x1∧(e:Int)=x2∧cmp=x3∧(i:Int)=x9∧(m:Int)=x10∧Kb b H G∧∃ (j:Nat) (S':List (Int × Int)),x11=j∧a≤j∧j≤i-1∧SqE B G b N dom S'∧Seg a e L S'∧SortedTo (0,0) c S' a (i-1) j,
   fun _ _ _ _ _ _ x11 _=>x11.toNat,⟨rfl,rfl,rfl,rfl,rfl,rfl,bG.trans k2,i-1,S2,rfl,by omega,Nat.le_refl _,s2,g2,fun p q h1 h2 h3 h4=>?_⟩,?_⟩
  ·rw [hS2,swp_offE (by omega) (by omega) (by omega) (by omega),swp_offE (by omega) (by omega) (by omega) (by omega)]
   exact hS p q h1 h2 (by omega)
  clear s2 g2 k2 hb
  rintro x0 x1 x2 x3 x9 x10 x11 G ⟨rfl,rfl,rfl,rfl,rfl,rfl,h1,j,S',rfl,haj,hj,h2,h3,h4⟩
  have hSl':=h2.len
  have stop:∀ G,Kb b H G→SqE B G b N dom S'→(j≤a∨LeC c (S'.getD (j-1) (0,0)) (S'.getD j (0,0)))→F221.B10 K (fun x0 x1 x2 x3 x9 x10 G'=>(sv b N=x0∧(a:Int)=x1∧(e:Int)=x2∧cmp=x3∧Kb b H G'∧∃ (i m:Nat) (S:List (Int × Int)),x9=i∧x10=m∧m≤5∧a+1≤i∧i≤e∧SqE B G' b N dom S∧Seg a e L S∧SortedIn (0,0) c a i S)∧5-x10.toNat<5-(m:Int).toNat) (sv b N) a e cmp i m G:=by
   intro G h1 h2 hst
   have:=h4.stop E.ord hst
   rw [show i-1+1=i by omega] at this
   exact k10 G S' h1 h2 h3 this
  unfold F221.B15
  refine pif_cases (fun hb=>?_) fun hb=>stop G h1 h2 (.inl (by have:=of_decide_eq_false hb;omega))
  have hj1:1≤j:=by have:=of_decide_eq_true hb;omega
  unfold F221.B14
  refine h2.less E (i:=j) (j:=j-1) (by omega) (by omega) rfl (wr (by omega) (by omega)) fun G3 r l3 s3 hr=>pif_cases (fun hq=>?_) fun hq=>?_
  ·exact stop G3 (h1.trans (Kb.of_le l3)) s3 (.inr fun hc=>by rw [decide_eq_true (hr.2 hc)] at hq;cases hq)
  ·have hc:=hr.1 (by simpa using hq)
   have hja:a<j:=by
    rcases Nat.lt_or_ge a j with h|h
    ·exact h
    ·have hja:j=a:=by omega
     have:=(hp.seg h3 (by omega)) (by omega) a (Nat.le_refl _) (by omega)
     rw [← hja] at this
     exact absurd hc this
   unfold F221.B13
   refine s3.swap E (i:=j) (j:=j-1) (by omega) (by omega) rfl (wr (by omega) (by omega)) fun G4 k4 s4=>?_
   unfold F221.B12
   rw [wr (i:=j-1) (by omega) (by omega)]
   refine ⟨⟨rfl,rfl,rfl,rfl,rfl,rfl,h1.trans ((Kb.of_le l3).trans k4),j-1,_,rfl,by omega,by omega,s4,h3.trans (swp_seg (by omega) (by omega) (by omega) (by omega) (by omega)),h4.step E.ord hja (by omega) hj hc⟩,?_⟩
   show ((j-1:Nat):Int).toNat<((j:Nat):Int).toNat
   omega
 unfold F221.B25
 refine pif_cases (fun hb=>?_) fun hb=>b22 G bG sS
 have hil:=of_decide_eq_true hb
 refine sS.less E (i:=i) (j:=i-1) (by omega) (by omega) rfl (wr (by omega) (by omega)) fun G3 r l3 s3 hr=>pif_cases (fun hq=>?_) fun hq=>?_
 ·unfold F221.B24
  rw [wr (i:=i+1) (by omega) (by omega)]
  refine ⟨⟨rfl,rfl,rfl,rfl,rfl,bG.trans (Kb.of_le l3),s3,i+1,rfl,by omega,by omega,sorted_extE E.ord hS fun _ hc=>by rw [decide_eq_true (hr.2 hc)] at hq;cases hq⟩,?_⟩
  show e-((i+1:Nat):Int).toNat<e-((i:Nat):Int).toNat
  omega
 ·exact b22 G3 (bG.trans (Kb.of_le l3)) s3
theorem pdqC_okE (E:SEE B b N cmp c dom):∀ (n:Nat) {H:AHeap} {L:List (Int × Int)} {a e:Nat} {lim:Int} {K:Value→AHeap→Prop},e-a≤n→SqE B H b N dom L→a≤e→e≤N→PreAE c a e L→
 (∀ G S,Kb b H G→SqE B G b N dom S→Seg a e L S→SortedIn (0,0) c a e S→K (.tuple ⟨[]⟩) G)→
 AC Tryz.prog T0 203 [sv b N,.int .i64 a,.int .i64 e,.int .i64 lim,cmp] H K:=by
 intro n
 induction n with
 | zero=>
  intro H L a e lim K hn h ha he hp k
  have hN:=E.hN
  apply F203.ac
  unfold F203.B32 F203.B31 F203.L1
  refine ⟨fun x0 x1 x2 x3 x4 x10 x11 G=>sv b N=x0∧(a:Int)=x1∧(e:Int)=x2∧cmp=x4∧H=G,fun _ _ _ _ _ _ _ _=>0,⟨rfl,rfl,rfl,rfl,rfl⟩,?_⟩
  rintro x0 x1 x2 x3 x4 x10 x11 G ⟨rfl,rfl,rfl,rfl,rfl⟩
  unfold F203.B30
  rw [wr (i:=e-a) (by omega) (by omega)]
  unfold F203.B29
  refine pif_t (decide_eq_true (by omega)) ?_
  unfold F203.B28
  exact insC_okE E h ha he fun G S k1 s1 g1 h1=>asTup_k (k G S k1 s1 g1 h1)
 | succ n ih=>
  intro H L a e lim K hn h ha he hp k
  have hN:=E.hN
  have hLl:=h.len
  apply F203.ac
  unfold F203.B32 F203.B31 F203.L1
  refine ⟨fun x0 x1 x2 x3 x4 x10 x11 G=>sv b N=x0∧cmp=x4∧Kb b H G∧∃ (a' e':Nat) (S:List (Int × Int)),x1=a'∧x2=e'∧a≤a'∧a'≤e'∧e'≤e∧SqE B G b N dom S∧Seg a e L S∧SortedBut (0,0) c a e a' e' S,
   fun _ x1 x2 _ _ _ _ _=>x2.toNat-x1.toNat,⟨rfl,rfl,.refl,a,e,L,rfl,rfl,Nat.le_refl _,ha,Nat.le_refl _,h,.refl,fun i j h1 h2 h3 h4=>by omega⟩,?_⟩
  rintro x0 x1 x2 lm x4 x10 x11 G ⟨rfl,rfl,bG,a',e',S,rfl,rfl,haa,hae,hee,sS,gS,bS⟩
  have hSl:=sS.len
  have step:∀ {S S2:List (Int × Int)},SortedBut (0,0) c a e a' e' S→S.length=N→Seg a' e' S S2→SortedBut (0,0) c a e a' e' S2:=fun h1 h2 h3=>h1.seg h3 haa hee (by omega)
  have preA:∀ {S:List (Int × Int)},Seg a e L S→SortedBut (0,0) c a e a' e' S→PreAE c a' e' S:=fun {S} g h h0 q h1 h2=>by
   by_cases e1:a'=a
   ·rw [e1] at h1 h0 ⊢
    exact (hp.seg g (by omega)) h0 q h1 (by omega)
   ·exact h (a'-1) q (by omega) (by omega) (by omega) (.inl (by omega))
  unfold F203.B30
  rw [wr (i:=e'-a') (by omega) (by omega)]
  unfold F203.B29
  refine pif_cases (fun hb=>?_) fun hb=>?_
  ·unfold F203.B28
   exact insC_okE E sS hae (by omega) fun G2 S2 k2 s2 g2 h2=>asTup_k (k G2 S2 (bG.trans k2) s2 (gS.trans (g2.mono haa hee)) ((step bS hSl g2).fin h2))
  have h12:=of_decide_eq_false hb
  unfold F203.B27
  refine pif_cases (fun hb=>?_) fun hb=>?_
  ·unfold F203.B26
   exact heapC_okE E sS hae (by omega) fun G2 S2 k2 s2 g2 h2=>asTup_k (k G2 S2 (bG.trans k2) s2 (gS.trans (g2.mono haa hee)) ((step bS hSl g2).fin h2))
  have hN1:∀ (y1 y2:Int) (lm:Int) (w1 w2:Bool) G S (a2 e2:Nat),y1=a2→y2=e2→a≤a2→a2≤e2→e2≤e→Kb b H G→SqE B G b N dom S→Seg a e L S→SortedBut (0,0) c a e a2 e2 S→e2-a2<e'-a'→
   (sv b N=sv b N∧cmp=cmp∧Kb b H G∧∃ (a' e':Nat) (S:List (Int × Int)),y1=a'∧y2=e'∧a≤a'∧a'≤e'∧e'≤e∧SqE B G b N dom S∧Seg a e L S∧SortedBut (0,0) c a e a' e' S)∧y2.toNat-y1.toNat<((e':Nat):Int).toNat-((a':Nat):Int).toNat:=by
   intro y1 y2 lm w1 w2 G S a2 e2 h1 h2 h3 h4 h5 h6 h7 h8 h9 h10
   exact ⟨⟨rfl,rfl,h6,a2,e2,S,h1,h2,h3,h4,h5,h7,h8,h9⟩,by omega⟩
  have b12:∀ (lm:Int) (p:Nat) G S,a'≤p→p<e'→Kb b H G→SqE B G b N dom S→Seg a e L S→SortedBut (0,0) c a e a' e' S→F203.B12 K (fun x0 x1 x2 x3 x4 x10 x11 G=>(sv b N=x0∧cmp=x4∧Kb b H G∧∃ (a' e':Nat) (S:List (Int × Int)),x1=a'∧x2=e'∧a≤a'∧a'≤e'∧e'≤e∧SqE B G b N dom S∧Seg a e L S∧SortedBut (0,0) c a e a' e' S)∧x2.toNat-x1.toNat<((e':Nat):Int).toNat-((a':Nat):Int).toNat) (sv b N) a' e' lm cmp ((e'-a':Nat):Int) p G:=by
   intro lm p G S hp1 hp2 kG sS gS bS
   have hSl:=sS.len
   unfold F203.B12
   refine partC_okE E sS hp1 hp2 (by omega) fun G2 S2 mid q k2 s2 g2 hm1 hm2 hlo hhi=>tup2_mk (asI_mk (asB_mk ?_))
   have b2:=step bS hSl g2
   have gg2:=gS.trans (g2.mono haa hee)
   have hS2l:=s2.len
   -- everything left of the pivot is at most it, everything right of it at least
   have hsplit:∀ i j,a'≤i→i<j→j<e'→(i<mid∧mid≤j∨i≤mid∧mid<j)→LeC c (S2.getD i (0,0)) (S2.getD j (0,0)):=by
    intro i j h1 h2 h3 h4
    by_cases e1:i=mid
    ·rw [e1];exact hhi j (by omega) h3
    ·by_cases e2:j=mid
     ·rw [e2];exact hlo i h1 (by omega)
     ·exact E.ord.tr _ _ _ (hlo i h1 (by omega)) (hhi j (by omega) h3)
   unfold F203.B11 F203.B10
   rw [wr (i:=mid-a') (by omega) (by omega),wr (i:=e'-mid) (by omega) (by omega)]
   unfold F203.B9 F203.B8
   refine pif_cases (fun hb=>?_) fun hb=>?_
   ·unfold F203.B4 F203.B3
    refine ih (L:=S2) (by omega) s2 hm1 (by omega) (fun h0 q h1 h2=>preA gg2 b2 h0 q h1 (by omega)) fun G3 S3 k3 s3 g3 h3=>asTup_k ?_
    unfold F203.B2
    refine hN1 _ _ lm false false G3 S3 (mid+1) e' (wr (by omega) (by omega)) rfl (by omega) (by omega) hee (kG.trans (k2.trans k3)) s3 (gg2.trans (g3.mono haa (by omega))) ?_ (by omega)
    have b3:=step b2 hS2l (g3.mono (Nat.le_refl _) (by omega))
    have hS3l:=s3.len
    intro i j h1 h2 h4 h5
    by_cases hin:a'≤i∧j<e'
    ·by_cases hj:j<mid
     ·exact h3 i j hin.1 h2 hj
     ·-- j at least the pivot's place
      have hj':S3.getD j (0,0)=S2.getD j (0,0):=g3.outD (.inr (by omega))
      by_cases hi:i<mid
      ·rw [hj']
       exact g3.all (d:=(0,0)) (Q:=fun x=>LeC c x (S2.getD j (0,0))) (by omega) (fun m hm1 hm2=>hsplit m j hm1 (by omega) hin.2 (.inl ⟨hm2,by omega⟩)) i hin.1 hi
      ·rw [hj',g3.outD (i:=i) (.inr (by omega))]
       exact hsplit i j hin.1 h2 hin.2 (.inr ⟨by omega,by omega⟩)
    ·exact b3 i j h1 h2 h4 (by omega)
   ·unfold F203.B7 F203.B6
    rw [wr (i:=mid+1) (by omega) (by omega)]
    refine ih (L:=S2) (by omega) s2 (by omega) (by omega) (fun h0 q h1 h2=>by rw [show mid+1-1=mid by omega];exact hhi q (by omega) h2) fun G3 S3 k3 s3 g3 h3=>asTup_k ?_
    unfold F203.B5
    refine hN1 _ _ lm false false G3 S3 a' mid rfl rfl haa hm1 (by omega) (kG.trans (k2.trans k3)) s3 (gg2.trans (g3.mono (by omega) hee)) ?_ (by omega)
    have b3:=step b2 hS2l (g3.mono (by omega) (Nat.le_refl _))
    have hS3l:=s3.len
    intro i j h1 h2 h4 h5
    by_cases hin:a'≤i∧j<e'
    ·by_cases hi:mid<i
     ·exact h3 i j (by omega) h2 hin.2
     ·have hi':S3.getD i (0,0)=S2.getD i (0,0):=g3.outD (.inl (by omega))
      by_cases hj:mid<j
      ·rw [hi']
       exact g3.all (d:=(0,0)) (Q:=fun x=>LeC c (S2.getD i (0,0)) x) (by omega) (fun m hm1 hm2=>hsplit i m hin.1 (by omega) hm2 (.inr ⟨by omega,by omega⟩)) j (by omega) hin.2
      ·rw [hi',g3.outD (i:=j) (.inl (by omega))]
       exact hsplit i j hin.1 h2 hin.2 (.inl ⟨by omega,by omega⟩)
    ·exact b3 i j h1 h2 h4 (by omega)
  have b15:∀ (lm:Int) (w1 w2:Bool) (p:Nat) G S,a'≤p→p<e'→Kb b H G→SqE B G b N dom S→Seg a e L S→SortedBut (0,0) c a e a' e' S→F203.B15 K (fun x0 x1 x2 x3 x4 x10 x11 G=>(sv b N=x0∧cmp=x4∧Kb b H G∧∃ (a' e':Nat) (S:List (Int × Int)),x1=a'∧x2=e'∧a≤a'∧a'≤e'∧e'≤e∧SqE B G b N dom S∧Seg a e L S∧SortedBut (0,0) c a e a' e' S)∧x2.toNat-x1.toNat<((e':Nat):Int).toNat-((a':Nat):Int).toNat) (sv b N) a' e' lm cmp w1 w2 ((e'-a':Nat):Int) p G:=by
   intro lm w1 w2 p G S hp1 hp2 kG sS gS bS
   have hSl:=sS.len
   unfold F203.B15
   refine pif_cases (fun hb=>?_) fun hb=>b12 lm p G S hp1 hp2 kG sS gS bS
   have ha0:0<a':=by have:=of_decide_eq_true hb;omega
   have hpre:=preA gS bS ha0
   refine sS.less E (i:=a'-1) (j:=p) (by omega) (by omega) (wr (by omega) (by omega)) rfl fun G1 r l1 s1 hr=>pif_cases (fun hq=>?_) fun hq=>?_
   ·have hn:¬ c (S.getD (a'-1) (0,0)) (S.getD p (0,0))<0:=fun hc=>by rw [decide_eq_true (hr.2 hc)] at hq;cases hq
    unfold F203.B14
    refine partEq_okE E s1 hp1 hp2 (by omega) fun G2 S2 mid k2 s2 g2 hm1 hm2 hlo=>asI_mk ?_
    have b2:=step bS hSl g2
    have hS2l:=s2.len
    unfold F203.B13
    refine hN1 _ _ lm w1 w2 G2 S2 mid e' rfl rfl (by omega) hm2 hee (kG.trans ((Kb.of_le l1).trans k2)) s2 (gS.trans (g2.mono haa hee)) (fun i j h1 h2 h4 h5=>?_) (by omega)
    by_cases hin:a'≤i∧j<e'
    ·have hj:LeC c (S.getD (a'-1) (0,0)) (S2.getD j (0,0)):=g2.all (d:=(0,0)) (Q:=fun x=>LeC c (S.getD (a'-1) (0,0)) x) (by omega) hpre j (by omega) hin.2
     exact E.ord.tr _ _ _ (hlo i hin.1 (by omega)) (E.ord.tr _ _ _ hn hj)
    ·exact b2 i j h1 h2 h4 (by omega)
   ·exact b12 lm p G1 S hp1 hp2 (kG.trans (Kb.of_le l1)) s1 gS bS
  have b17:∀ (lm:Int) (w1 w2:Bool) (p:Nat) (hint:Int) G S,a'≤p→p<e'→Kb b H G→SqE B G b N dom S→Seg a e L S→SortedBut (0,0) c a e a' e' S→F203.B17 K (fun x0 x1 x2 x3 x4 x10 x11 G=>(sv b N=x0∧cmp=x4∧Kb b H G∧∃ (a' e':Nat) (S:List (Int × Int)),x1=a'∧x2=e'∧a≤a'∧a'≤e'∧e'≤e∧SqE B G b N dom S∧Seg a e L S∧SortedBut (0,0) c a e a' e' S)∧x2.toNat-x1.toNat<((e':Nat):Int).toNat-((a':Nat):Int).toNat) (sv b N) a' e' lm cmp w1 w2 ((e'-a':Nat):Int) p hint G:=by
   intro lm w1 w2 p hint G S hp1 hp2 kG sS gS bS
   have hSl:=sS.len
   have d:=b15 lm w1 w2 p G S hp1 hp2 kG sS gS bS
   unfold F203.B17
   refine pif_cases (fun _=>pif_cases (fun _=>pif_cases (fun _=>?_) fun _=>d) fun _=>d) fun _=>d
   unfold F203.B16
   refine partIns_okE E sS (by omega) (by omega) (preA gS bS) fun G2 S2 q k2 s2 g2 h2=>asB_mk (pif_cases (fun hq=>?_) fun hq=>?_)
   ·exact k G2 S2 (kG.trans k2) s2 (gS.trans (g2.mono haa hee)) ((step bS hSl g2).fin (h2 hq))
   ·exact b15 lm w1 w2 p G2 S2 hp1 hp2 (kG.trans k2) s2 (gS.trans (g2.mono haa hee)) (step bS hSl g2)
  have b22:∀ (lm:Int) (w1 w2:Bool) G S,Kb b H G→SqE B G b N dom S→Seg a e L S→SortedBut (0,0) c a e a' e' S→F203.B22 K (fun x0 x1 x2 x3 x4 x10 x11 G=>(sv b N=x0∧cmp=x4∧Kb b H G∧∃ (a' e':Nat) (S:List (Int × Int)),x1=a'∧x2=e'∧a≤a'∧a'≤e'∧e'≤e∧SqE B G b N dom S∧Seg a e L S∧SortedBut (0,0) c a e a' e' S)∧x2.toNat-x1.toNat<((e':Nat):Int).toNat-((a':Nat):Int).toNat) (sv b N) a' e' lm cmp w1 w2 ((e'-a':Nat):Int) G:=by
   intro lm w1 w2 G S kG sS gS bS
   have hSl:=sS.len
   unfold F203.B22
   refine pivotC_okE E sS (by omega) (by omega) fun G2 p hint l2 hp1 hp2=>tup2_mk (asI_mk (asI_mk ?_))
   unfold F203.B21
   refine pif_cases (fun hb=>?_) fun hb=>b17 lm w1 w2 p hint G2 S hp1 hp2 (kG.trans (Kb.of_le l2)) (sS.le l2) gS bS
   unfold F203.B20
   refine revC_okE E (sS.le l2) (by omega) (by omega) fun G3 S3 k3 s3 g3=>asTup_k ?_
   unfold F203.B19
   rw [wr (x:=((e':Nat):Int)-1) (i:=e'-1) (by omega) (by omega),wr (x:=((p:Nat):Int)-(a':Nat)) (i:=p-a') (by omega) (by omega),wr (i:=e'-1-(p-a')) (by omega) (by omega)]
   unfold F203.B18
   exact b17 lm w1 w2 _ 1 G3 S3 (by omega) (by omega) (kG.trans ((Kb.of_le l2).trans k3)) s3 (gS.trans (g3.mono haa hee)) (step bS hSl g3)
  unfold F203.B25
  refine pif_cases (fun hb=>?_) fun hb=>b22 lm x10 x11 G S bG sS gS bS
  unfold F203.B24
  refine breakC_okE E sS (by omega) (by omega) fun G2 S2 k2 s2 g2=>asTup_k ?_
  unfold F203.B23
  exact b22 _ x10 x11 G2 S2 (bG.trans k2) s2 (gS.trans (g2.mono haa hee)) (step bS hSl g2)
theorem sortFuncC_okE (E:SEE B b N cmp c dom) (h:SqE B H b N dom L) (k:∀ G S,Kb b H G→SqE B G b N dom S→S.Perm L→SortedIn (0,0) c 0 N S→K (.tuple ⟨[]⟩) G) :
 AC Tryz.prog T0 171 [sv b N,cmp] H K:=by
 have hN:=E.hN
 apply F171.ac
 unfold F171.B2
 refine lenK_of ?_
 unfold F171.B1
 rw [w64id (by omega)]
 refine bitsLen_ok (by omega) fun x _ _ _=>asI_mk ?_
 exact pdqC_okE E N (a:=0) (by omega) h (by omega) (Nat.le_refl _) (fun h=>absurd h (by omega)) fun G S k1 s1 g1 h1=>asTup_k (k G S k1 s1 g1.perm h1)
end Go.Proofs
namespace Go.Proofs
open Go.Abs

variable {H G:AHeap} {v u f w:Value} {es fs S:List (Int × Int)} {K:Value→AHeap→Prop}

section
variable {α:Type} {d:α} {c:α→α→Int} {S:List α} {j:Nat} {x:α}
theorem insG_sorted (hc:Cmp c) (hS:S.Pairwise (LeC c)) (hj:j≤S.length) (h1:∀ q,j≤q→q<S.length→c x (S.getD q d)<0) (h2:j=0∨¬ c x (S.getD (j-1) d)<0):(S.take j++([x]++S.drop j)).Pairwise (LeC c):=by
 have hS':=hS
 rw [← List.take_append_drop j S,List.pairwise_append] at hS'
 obtain ⟨p1,p2,p3⟩:=hS'
 rw [List.pairwise_append]
 refine ⟨p1,?_,fun a ha b hb=>?_⟩
 ·rw [List.singleton_append,List.pairwise_cons]
  refine ⟨fun b hb=>?_,p2⟩
  obtain ⟨i,hi,rfl⟩:=List.getElem_of_mem hb
  rw [List.length_drop] at hi
  have:=h1 (j+i) (by omega) (by omega)
  rw [getD_of (by omega)] at this
  rw [List.getElem_drop];exact hc.lt this
 ·rw [List.singleton_append,List.mem_cons] at hb
  rcases hb with rfl|hb
  ·obtain ⟨i,hi,rfl⟩:=List.getElem_of_mem ha
   rw [List.length_take] at hi
   rw [List.getElem_take]
   rcases h2 with h2|h2
   ·omega
   ·rw [getD_of (by omega)] at h2
    by_cases e:i=j-1
    ·subst e;exact h2
    ·exact hc.tr _ _ _ ((List.pairwise_iff_getElem.1 hS) i (j-1) (by omega) (by omega) (by omega)) h2
  ·exact p3 a ha b hb
theorem insG_perm:(S.take j++([x]++S.drop j)).Perm (S++[x]):=by
 have h1:(S.take j++([x]++S.drop j)).Perm (S.take j++(S.drop j++[x])):=List.Perm.append_left _ List.perm_append_comm
 have e:S.take j++(S.drop j++[x])=S++[x]:=by rw [← List.append_assoc,List.take_append_drop]
 rw [← e];exact h1
end
theorem cmpE_ord:Cmp cmpE:=⟨fun x y z h1 h2=>by
 rw [cmpE_neg] at *;unfold ltE at *;omega,fun x y h=>by rw [cmpE_neg] at *;unfold ltE at *;omega⟩
def nrmE (e:Int × Int):Int × Int:=(if e.2<e.1 then e.2 else e.1,if e.2>e.1 then e.2 else e.1)
noncomputable def srtE (l:List (Int × Int)):List (Int × Int):=l.mergeSort fun a b=>decide (LeC cmpE a b)
theorem srtE_perm (l:List (Int × Int)):(srtE l).Perm l:=List.mergeSort_perm _ _
theorem srtE_eq {l:List (Int × Int)} (h1:S.Pairwise (LeC cmpE)) (h2:S.Perm l):S=srtE l:=by
 refine sorted_same (le:=LeC cmpE) (fun a b h1 h2=>?_) h1 ?_ (h2.trans (srtE_perm l).symm)
 ·have e1:¬ ltE b a:=fun h=>h1 ((cmpE_neg _ _).2 h)
  have e2:¬ ltE a b:=fun h=>h2 ((cmpE_neg _ _).2 h)
  unfold ltE at e1 e2
  exact Prod.ext (by omega) (by omega)
 ·have:=List.pairwise_mergeSort (le:=fun a b=>decide (LeC cmpE a b)) (fun a b c h1 h2=>by
   rw [decide_eq_true_iff] at *;exact cmpE_ord.tr _ _ _ h1 h2) (fun a b=>by
   by_cases h:cmpE a b<0
   ·rw [Bool.or_eq_true];left;exact decide_eq_true (cmpE_ord.lt h)
   ·rw [Bool.or_eq_true];right;exact decide_eq_true h) l
  exact this.imp fun h=>of_decide_eq_true h
theorem srtE_length (l:List (Int × Int)):(srtE l).length=l.length:=(srtE_perm l).length_eq
theorem fresh_neE {m0:Nat} (h:Fresh m0 H v 28 2 (LE es)) (hl:0<es.length):∃ b,m0≤b∧v=.slice (some ⟨b,0,none⟩) es.length (es.length+1)∧Own H b 28 (LE es):=by
 rcases h with ⟨h0,_⟩|⟨b,n,hb,rfl,h3,h4⟩
 ·have:=congrArg List.length h0;rw [LE_length,List.length_nil] at this;omega
 ·rw [LE_length] at h4
  have hn:n=es.length:=by omega
  subst hn
  exact ⟨b,hb,rfl,h3⟩
theorem own_idx2 {b n:Nat} {x:Int} {K:Nat→Nat→Prop} (h0:0≤x) (h1:x<n) (k:K b (x.toNat*2)):idxK (.slice (some ⟨b,0,none⟩) n (n+1)) x 2 K:=⟨h0,h1,by simpa using k⟩
theorem own_edge {b n j:Nat} {K:Int→Int→Prop} (o:Own H b 28 (LE S)) (hn:S.length=n) (hj:j<n) (k:K (S.getD j (0,0)).1 (S.getD j (0,0)).2):idxK (.slice (some ⟨b,0,none⟩) n (n+1)) (j:Int) 2 (fun b o=>ldI .i64 H b o fun p=>ldI .i64 H b (o+1) fun q=>K p q):=by
 obtain ⟨g1,g2⟩:=LE_get S j (S.getD j (0,0)) (by rw [getD_of (by omega)];exact List.getElem?_eq_getElem (by omega))
 refine own_idx2 (by omega) (by omega) ?_
 rw [Int.toNat_natCast]
 exact ldI_own o g1 (ldI_own o g2 k)
theorem set_edge {b n j:Nat} {x:Int × Int} {K:AHeap→Prop} (o:Own H b 28 (LE S)) (hn:S.length=n) (hj:j<n) (k:∀ G,But b H G→Own G b 28 (LE (S.set j x))→K G) :
 idxK (.slice (some ⟨b,0,none⟩) n (n+1)) (j:Int) 2 (fun b o=>stK H b o [.int .i64 x.1,.int .i64 x.2] K):=by
 have LL:=LE_length S
 refine own_idx2 (by omega) (by omega) (stK_f (new:=LE (S.set j x)) o (by rw [LL,Int.toNat_natCast];show j*2+2≤_;omega) (by simp [Value.oneCell']) (by rw [Int.toNat_natCast];exact LE_set S x (by omega)) k)
theorem l01Sort_ok (h:Edges H v es) (hl:es.length≤1048576) (k:∀ v' G,H.le G→Fresh H.length G v' 28 2 (LE (srtE (es.map nrmE)))→K v' G):AC Tryz.prog T0 117 [v] H K:=by
 apply F117.ac
 unfold F117.B14 F117.B13
 refine newK_f rfl fun H1 l1 n1 o1=>?_
 unfold F117.B12 F117.L2
 refine ⟨fun x0 x3 x4 G=>v=x0∧H.le G∧∃ (i bo:Nat) (S:List (Int × Int)),x4=i∧i≤es.length∧H.length≤bo∧x3=.slice (some ⟨bo,0,none⟩) S.length (S.length+1)∧Own G bo 28 (LE S)∧S.Pairwise (LeC cmpE)∧S.Perm ((es.take i).map nrmE),
  fun _ _ x4 _=>es.length-x4.toNat,⟨rfl,l1,0,H.length,[],rfl,by omega,Nat.le_refl _,rfl,o1,List.Pairwise.nil,by simp⟩,?_⟩
 rintro x0 x3 x4 G ⟨rfl,lG,i,bo,S,rfl,hi,hbo,rfl,oS,sS,pS⟩
 have hSl:S.length=i:=by have:=pS.length_eq;rw [List.length_map,List.length_take] at this;omega
 unfold F117.B11
 refine (h.le lG).len (pif_cases (fun hb=>?_) fun hb=>?_)
 rotate_left
 ·have hil:i=es.length:=by have:=of_decide_eq_false hb;omega
  subst hil
  rw [List.take_length] at pS
  unfold F117.B1
  refine k _ G lG (.inr ⟨bo,S.length,hbo,rfl,?_,?_⟩)
  ·rw [← srtE_eq sS pS];exact oS
  ·rw [← srtE_eq sS pS,LE_length]
 have hil:i<es.length:=by have:=of_decide_eq_true hb;omega
 obtain ⟨eb,eo,hk,c1,c2⟩:=(h.le lG).idx (show (0:Int)≤i by omega) (by omega)
 simp only [Int.toNat_natCast] at c1 c2
 obtain ⟨e,he⟩:∃ e,e=nrmE (es.getD i (0,0)):=⟨_,rfl⟩
 have hbl:=oS.lt
 unfold F117.B10
 refine hk _ (ldI_mk c1 (hk _ (ldI_mk c2 (hk _ (ldI_mk c1 (hk _ (ldI_mk c2 (lenK_of (newK_f rfl fun G1 l1' n1' o1'=>stK_f (new:=[.int .i64 e.1,.int .i64 e.2]) o1' (by simp) (by simp [Value.oneCell']) (by rw [he];rfl) fun G2 b2 o2=>?_)))))))))
 have l2:G.le G2:=b2.le l1' (Nat.le_refl _)
 have lG2:=AHeap.le_trans lG l2
 have oS2:=oS.le l2
 unfold F117.B9
 refine ldI_own o2 rfl (ldI_own o2 rfl ?_)
 refine Sl.pushN (m:=H.length) E_edge (by decide) (Fresh.sl (.inr ⟨bo,S.length,hbo,rfl,oS2,LE_length S⟩)) lG2.1 (n:=1) (ys:=[.int .i64 e.1,.int .i64 e.2]) rfl rfl (by rw [LE_length];simp;omega) (by simp) fun v' G3 k3 ot3 nb3 f3=>?_
 have f3:Fresh H.length G3 v' 28 2 (LE (S++[e])):=by rw [LE_append];exact f3
 obtain ⟨b3,hb3,rfl,o3⟩:=fresh_neE f3 (by simp)
 have hn3:G2.length≤b3:=nb3 b3 rfl
 have lG3:H.le G3:=k3.le lG2 (Nat.le_refl _)
 have ox3:Own G3 G.length 28 [.int .i64 e.1,.int .i64 e.2]:=ot3 _ _ (fun hv=>by cases hv;omega) o2
 have hlen3:(S++[e]).length=S.length+1:=by simp
 rw [hlen3]
 unfold F117.L5
 refine ⟨fun x0 x3 x4 x5 x6 G'=>v=x0∧.slice (some ⟨b3,0,none⟩) (S.length+1) (S.length+1+1)=x3∧(i:Int)=x4∧G.length=x5∧H.le G'∧Own G' G.length 28 [.int .i64 e.1,.int .i64 e.2]∧∃ (j:Nat) (g:Int × Int),x6=j∧j≤S.length∧Own G' b3 28 (LE (S.take j++([g]++S.drop j)))∧∀ q,j≤q→q<S.length→cmpE e (S.getD q (0,0))<0,
  fun _ _ _ _ x6 _=>x6.toNat,⟨rfl,rfl,rfl,rfl,lG3,ox3,S.length,e,rfl,Nat.le_refl _,by rw [List.take_length,List.drop_length,List.append_nil];exact o3,fun q h1 h2=>by omega⟩,?_⟩
 clear ox3 o3 f3 ot3 nb3 lG3 k3
 rintro x0 x3 x4 x5 x6 G' ⟨rfl,rfl,rfl,rfl,lG',oe,j,g,rfl,hj,oj,hgt⟩
 have hbG:G.length<b3:=by have:=b2.len;omega
 obtain ⟨T,hT⟩:∃ T,T=S.take j++([g]++S.drop j):=⟨_,rfl⟩
 have hTl:T.length=S.length+1:=by rw [hT];simp [Nat.min_eq_left hj];omega
 have hTj:∀ x,T.set j x=S.take j++([x]++S.drop j):=fun x=>by
  rw [hT,List.set_append_right _ _ (by simp;omega)]
  simp [Nat.min_eq_left hj]
 rw [← hT] at oj
 have next:(j=0∨¬ cmpE e (S.getD (j-1) (0,0))<0)→∀ G',H.le G'→Own G' b3 28 (LE T)→Own G' G.length 28 [.int .i64 e.1,.int .i64 e.2]→F117.B4 K (fun z0 z3 z4 G''=>(v=z0∧H.le G''∧∃ (i bo:Nat) (S:List (Int × Int)),z4=i∧i≤es.length∧H.length≤bo∧z3=.slice (some ⟨bo,0,none⟩) S.length (S.length+1)∧Own G'' bo 28 (LE S)∧S.Pairwise (LeC cmpE)∧S.Perm ((es.take i).map nrmE))∧es.length-z4.toNat<es.length-(i:Int).toNat) v (.slice (some ⟨b3,0,none⟩) (S.length+1) (S.length+1+1)) i G.length j G':=by
  intro hst G' lG' oj oe
  unfold F117.B4
  refine ldI_own oe rfl (ldI_own oe rfl (set_edge (x:=e) oj hTl (by omega) fun G5 b5 o5=>?_))
  rw [hTj] at o5
  unfold F117.B3
  rw [wrap_id (by omega) (by omega)]
  have hlen:(S.take j++([e]++S.drop j)).length=S.length+1:=by simp [Nat.min_eq_left hj];omega
  refine ⟨⟨rfl,b5.le lG' hb3,i+1,b3,_,by omega,by omega,hb3,by rw [hlen],o5,insG_sorted (d:=(0,0)) cmpE_ord sS hj hgt hst,insG_perm.trans ?_⟩,by omega⟩
  rw [List.take_succ_eq_append_getElem hil,List.map_append,List.map_singleton,he,getD_of hil]
  exact pS.append_right _
 unfold F117.B8
 refine pif_cases (fun hb=>?_) fun hb=>next (.inl (by have:=of_decide_eq_false hb;omega)) G' lG' oj oe
 have hj0:0<j:=by have:=of_decide_eq_true hb;omega
 have hT1:T.getD (j-1) (0,0)=S.getD (j-1) (0,0):=by
  rw [hT]
  simp [List.getD,List.getElem?_append_left (show j-1<(S.take j).length by simp;omega),List.getElem?_take_of_lt (show j-1<j by omega)]
 have w1:IntKind.i64.wrap ((j:Int)-1)=((j-1:Nat):Int):=wr (by omega) (by omega)
 rw [w1]
 refine ldI_own oe rfl (ldI_own oe rfl (own_edge (j:=j-1) oj hTl (by omega) ?_))
 rw [hT1]
 refine l01Before_ok (a:=e) (b:=S.getD (j-1) (0,0)) fun G5 l5=>asB_mk (pif_cases (fun hq=>?_) fun hq=>?_)
 ·have hlt:=(cmpE_neg _ _).2 (of_decide_eq_true hq)
  have oj5:=oj.le l5
  unfold F117.B7
  rw [w1]
  refine own_edge (j:=j-1) oj5 hTl (by omega) ?_
  rw [hT1]
  refine set_edge (x:=S.getD (j-1) (0,0)) oj5 hTl (by omega) fun G6 b6 o6=>?_
  rw [hTj] at o6
  unfold F117.B6
  rw [w1]
  refine ⟨⟨rfl,rfl,rfl,rfl,b6.le (AHeap.le_trans lG' l5) hb3,b6.own (oe.le l5) (by omega),j-1,S.getD (j-1) (0,0),rfl,by omega,?_,fun q h1 h2=>?_⟩,?_⟩
  ·have e1:S.take (j-1)++([S.getD (j-1) (0,0)]++S.drop (j-1))=S.take j++([S.getD (j-1) (0,0)]++S.drop j):=by
    obtain ⟨j',rfl⟩:∃ j',j=j'+1:=⟨j-1,by omega⟩
    rw [Nat.add_sub_cancel,getD_of (show j'<S.length by omega),List.drop_eq_getElem_cons (show j'<S.length by omega),List.take_succ_eq_append_getElem (show j'<S.length by omega),List.append_assoc]
    rfl
   rw [e1];exact o6
  ·by_cases e2:q=j-1
   ·subst e2;exact hlt
   ·exact hgt q (by omega) h2
  ·show ((j-1:Nat):Int).toNat<((j:Nat):Int).toNat
   omega
 ·exact next (.inr fun hc=>of_decide_eq_false hq ((cmpE_neg _ _).1 hc)) G5 (AHeap.le_trans lG' l5) (oj.le l5) (oe.le l5)
theorem fresh_one {m0:Nat} (h:Fresh m0 H v 28 2 (LE es)):v.oneCell'=true:=edges_one' h.edges
theorem l01Made_ok {n:Int} (h:Edges H v es) (hl:es.length≤1048576) (k:∀ v' G,H.le G→Fresh H.length G v' 28 2 (LE (srtE (es.map nrmE)))→K (.agg ⟨[.int .i64 n,v']⟩) G):AC Tryz.prog T0 60 [.int .i64 n,v] H K:=by
 apply F60.ac
 unfold F60.B2
 refine newK_f rfl fun H1 l1 n1 o1=>?_
 unfold F60.B1
 refine l01Sort_ok (h.le l1) hl fun v' G l2 f2=>pif_t (fresh_one f2) (stK_f (new:=[.int .i64 n,v']) (o1.le l2) (by simp) (mem_iv (fresh_one f2)) rfl fun G3 b3 o3=>ldI_own o3 rfl (ld1_own o3 rfl ?_))
 have hl1:=l1.1
 exact k v' G3 (b3.le (AHeap.le_trans l1 l2) (Nat.le_refl _)) ((f2.but b3 (by omega)).less hl1)
theorem cmpE_v (B:AHeap):CmpVE B (.func (.func 65) ⟨[]⟩ ⟨[]⟩) cmpE (fun _=>True):=fun x y _ _ G hG K k=>
 callV_mk (compareEdges_ok (a:=x) (b:=y) fun G' hG'=>k G' _ hG' Iff.rfl)
theorem graphOf_ok {n:Int} (h:Edges H v es) (hl:es.length≤1048576) (h0:0<es.length) (k:∀ v' G,H.le G→Fresh H.length G v' 28 2 (LE (srtE (es.map nrmE)))→K (.agg ⟨[.int .i64 n,v']⟩) G):AC Tryz.prog T0 116 [.int .i64 n,v] H K:=by
 apply F116.ac
 unfold F116.B10
 refine newK_f rfl fun H1 l1 n1 o1=>?_
 unfold F116.B9
 refine newK_f rfl fun H2 l2 n2 o2=>stK_f (new:=[.int .i64 n,.slice none 0 0]) o2 (by simp) (by simp [Value.oneCell']) rfl fun H3 b3 o3=>?_
 have l13:H1.le H3:=b3.le l2 (Nat.le_refl _)
 have l3:=AHeap.le_trans l1 l13
 have n3:H3.length=H.length+2:=by rw [b3.len,n2,n1]
 rw [n1] at o3 ⊢
 have o13:=o1.le l13
 unfold F116.B8
 refine (h.le l3).len ?_
 unfold F116.L3
 refine ⟨fun x4 x5 x10 x11 x12 G=>H.length=x4∧H.length+1=x5∧v=x10∧(es.length:Int)=x11∧H.le G∧H.length+2≤G.length∧Own G H.length 31 [.int .i64 0,.slice none 0 0]∧∃ (i:Nat) (w:Value),x12=i∧i≤es.length∧Own G (H.length+1) 31 [.int .i64 n,w]∧Fresh (H.length+2) G w 28 2 (LE ((es.take i).map nrmE)),
  fun _ _ _ _ x12 _=>es.length-x12.toNat,⟨rfl,rfl,rfl,rfl,l3,by omega,o13,0,_,rfl,by omega,o3,.inl ⟨rfl,.inl rfl⟩⟩,?_⟩
 rintro x4 x5 x10 x11 x12 G ⟨rfl,rfl,rfl,rfl,lG,hGl,oA,i,w,rfl,hi,oB,fW⟩
 unfold F116.B7
 refine pif_cases (fun hb=>?_) fun hb=>?_
 ·have hil:i<es.length:=by have:=of_decide_eq_true hb;omega
  obtain ⟨eb,eo,hk,c1,c2⟩:=(h.le lG).idx (show (0:Int)≤i by omega) (by omega)
  simp only [Int.toNat_natCast] at c1 c2
  unfold F116.B6
  refine hk _ (ldI_mk c1 (ldI_mk c2 (newK_f rfl fun G1 l1' n1' o1'=>stK_f (new:=[.int .i64 (es.getD i (0,0)).1,.int .i64 (es.getD i (0,0)).2]) o1' (by simp) (by simp [Value.oneCell']) rfl fun G2 b2 o2'=>?_)))
  have l2':G.le G2:=b2.le l1' (Nat.le_refl _)
  have lG2:=AHeap.le_trans lG l2'
  have oA2:=oA.le l2'
  have oB2:=oB.le l2'
  have fW2:=fW.le l2'
  unfold F116.B5
  refine ld1_own oB2 rfl (ldI_own o2' rfl (ldI_own o2' rfl (ldI_own o2' rfl (ldI_own o2' rfl ?_))))
  have hg2:=l2'.1
  refine Sl.pushN (m:=H.length+2) E_edge (by decide) fW2.sl (by omega) (n:=1) (ys:=[.int .i64 (nrmE (es.getD i (0,0))).1,.int .i64 (nrmE (es.getD i (0,0))).2]) rfl rfl (by rw [LE_length];simp;omega) (by simp) fun v' G3 k3 ot3 nb3 f3=>?_
  have f3:Fresh (H.length+2) G3 v' 28 2 (LE ((es.take (i+1)).map nrmE)):=by
   rw [List.take_succ_eq_append_getElem hil,List.map_append,List.map_singleton,LE_append,← getD_of (d:=(0,0)) hil];exact f3
  have oA3:=k3.own oA2 (by omega)
  have oB3:=k3.own oB2 (by omega)
  have lG3:H.le G3:=k3.le lG2 (by omega)
  have h1:=fresh_one f3
  refine pif_t h1 (stK_f (new:=[.int .i64 n,v']) oB3 (by simp) (by simpa using h1) rfl fun G4 b4 o4=>?_)
  have hg3:=k3.len
  have hg4:=b4.len
  unfold F116.B4
  rw [wrap_id (by omega) (by omega)]
  exact ⟨⟨rfl,rfl,rfl,rfl,b4.le lG3 (by omega),by omega,b4.own oA3 (by omega),i+1,v',by omega,by omega,o4,f3.but b4 (by omega)⟩,by show es.length-((i:Int)+1).toNat<es.length-(i:Int).toNat;omega⟩
 ·have hil:i=es.length:=by have:=of_decide_eq_false hb;omega
  subst hil
  rw [List.take_length] at fW
  obtain ⟨b,hb',rfl,oW⟩:=fresh_neE fW (by simpa using h0)
  have hln:(es.map nrmE).length=es.length:=by simp
  rw [hln] at oB
  unfold F116.B2
  refine ld1_own oB rfl ?_
  refine sortFuncC_okE (B:=H) (b:=b) (N:=es.length) (c:=cmpE) (dom:=fun _=>True) ⟨cmpE_v H,cmpE_ord,by omega,hl⟩ (L:=es.map nrmE) ⟨lG,oW,fun _ _=>trivial,hln⟩ fun G2 S2 k2 s2 p2 h2=>asTup_k ?_
  have e2:S2=srtE (es.map nrmE):=srtE_eq (SortedIn.pairs (d:=(0,0)) (by rw [s2.len];exact h2)) p2
  have oA2:=k2.old _ _ (by omega) oA
  have oB2:=k2.old _ _ (by omega) oB
  have oS2:=s2.own
  have hbl:=oW.lt
  unfold F116.B1
  refine ldI_own oB2 rfl (ld1_own oB2 rfl (stK_f (new:=[.int .i64 n,.slice (some ⟨b,0,none⟩) es.length (es.length+1)]) oA2 (by simp) (by simp [Value.oneCell']) rfl fun G3 b3' o3'=>ldI_own o3' rfl (ld1_own o3' rfl ?_)))
  refine k _ G3 (b3'.le s2.base (Nat.le_refl _)) (.inr ⟨b,es.length,by omega,rfl,?_,?_⟩)
  ·rw [← e2];exact b3'.own oS2 (by omega)
  ·rw [← e2,LE_length,s2.len]
end Go.Proofs
namespace Go.Proofs
open Go.Abs

variable {H G:AHeap} {v u f w:Value} {es fs S:List (Int × Int)} {l:List Int} {K:Value→AHeap→Prop}

theorem srtE_sorted (l:List (Int × Int)):(srtE l).Pairwise (LeC cmpE):=by
 have:=List.pairwise_mergeSort (le:=fun a b=>decide (LeC cmpE a b)) (fun a b c h1 h2=>by
  rw [decide_eq_true_iff] at *;exact cmpE_ord.tr _ _ _ h1 h2) (fun a b=>by
  by_cases h:cmpE a b<0
  ·rw [Bool.or_eq_true];left;exact decide_eq_true (cmpE_ord.lt h)
  ·rw [Bool.or_eq_true];right;exact decide_eq_true h) l
 exact this.imp fun h=>of_decide_eq_true h
theorem push_edge {m0:Nat} {x:Int × Int} (hF:Fresh m0 H v 28 2 (LE es)) (hm:m0≤H.length) (hs:es.length<1000000)
 (k:∀ v' G,Keep m0 H G→Oth v H G→(∀ b,bk v'=some b→H.length≤b)→Fresh m0 G v' 28 2 (LE (es++[x]))→K v' G) :
 newK H [.int .i64 x.1,.int .i64 x.2] 28 (fun b1 H2=>apK T0 28 H2 v (.slice (some ⟨b1,0,none⟩) 1 (1+1)) K):=by
 refine hF.sl.pushN E_edge (by decide) hm (n:=1) (ys:=[.int .i64 x.1,.int .i64 x.2]) rfl rfl (by rw [LE_length];simp;omega) (by simp) fun v' G k1 ot nb f=>k v' G k1 ot nb ?_
 rw [LE_append];exact f
end Go.Proofs
namespace Go.Proofs
open Go.Abs

variable {es fs:List (Int × Int)} {n:Int} {e f:Nat}

def onN (es:List (Int × Int)) (v:Nat):Nat:=(es.filter fun e=>on e (v:Int)).length
theorem onN_perm {es fs:List (Int × Int)} (h:es.Perm fs) (v:Nat):onN es v=onN fs v:=by
 unfold onN;exact (h.filter _).length_eq
theorem onN_app (a b:List (Int × Int)) (v:Nat):onN (a++b) v=onN a v+onN b v:=by
 unfold onN;rw [List.filter_append,List.length_append]
theorem onN_cons (a:Int × Int) (b:List (Int × Int)) (v:Nat):onN (a::b) v=(if on a (v:Int) then 1 else 0)+onN b v:=by
 unfold onN
 rw [List.filter_cons]
 by_cases h:on a (v:Int)=true <;> simp [h] <;> omega
theorem onN_atL (es:List (Int × Int)) (v:Nat):(atL es (v:Int)).length=onN es v:=by
 have key:∀ k,k≤es.length→(atTo es (v:Int) k).length=onN (es.take k) v:=by
  intro k
  induction k with
  | zero=>intro _;simp [atTo,onN]
  | succ k ih=>
   intro hk
   rw [atTo_succ,List.length_append,ih (by omega),List.take_succ_eq_append_getElem (by omega),onN_app,← getD_of (d:=(0,0)) (by omega),onN_cons]
   have nil:onN [] v=0:=rfl
   rw [nil]
   by_cases h:on (es.getD k (0,0)) (v:Int)=true
   ·rw [if_pos h,if_pos h];rfl
   ·rw [if_neg h,if_neg h];rfl
 have:=key es.length (Nat.le_refl _)
 rw [List.take_length] at this
 exact this
theorem counts_on (hd:IsEd n es) {v:Nat} (hv:(v:Int)<n):(counts n es).getD v 0=(onN es v:Nat):=by
 have:=counts_at hd hv es.length (Nat.le_refl _)
 rw [List.take_length] at this
 rw [this,← onN_atL];rfl
theorem isG_of (hd:IsEd n es) (hu:∀ e∈es,e.1<e.2) (hs:Srt es) (h3:∀ v:Nat,(v:Int)<n→onN es v=3):IsG n es:=by
 refine ⟨hd,hu,hs,fun c hc=>?_⟩
 obtain ⟨i,hi,rfl⟩:=List.getElem_of_mem hc
 have hl:=hi
 rw [counts_length] at hl
 have:=counts_on hd (v:=i) (by omega)
 rw [getD_of hi] at this
 rw [this,h3 i (by omega)];rfl
theorem on3 (hg:IsG n es) {v:Nat} (hv:(v:Int)<n):onN es v=3:=by
 rw [← onN_atL];exact hg.three (by omega) hv
theorem srt_srtE (l:List (Int × Int)):Srt (srtE l):=by
 intro i hi
 have:=srtE_sorted l
 rw [List.pairwise_iff_getElem] at this
 have h:=this i (i+1) (by omega) hi (by omega)
 rw [getD_of hi,getD_of (by omega)]
 intro hlt
 exact h ((cmpE_neg _ _).2 hlt)
def brB (n:Int) (es:List (Int × Int)) (e f i:Nat):List (Int × Int):=
 if i=e then [((es.getD i (0,0)).1,n),((es.getD i (0,0)).2,n)] else if i=f then [((es.getD i (0,0)).1,n+1),((es.getD i (0,0)).2,n+1)] else [es.getD i (0,0)]
def bgTo (n:Int) (es:List (Int × Int)) (e f k:Nat):List (Int × Int):=(n,n+1)::(List.range k).flatMap (brB n es e f)
theorem bgTo_succ (n:Int) (es:List (Int × Int)) (e f k:Nat):bgTo n es e f (k+1)=bgTo n es e f k++brB n es e f k:=by
 unfold bgTo
 rw [List.range_succ,List.flatMap_append]
 simp
noncomputable def brG (n:Int) (es:List (Int × Int)) (e f:Nat):List (Int × Int):=srtE (bgTo n es e f es.length)
theorem br_len (he:e<es.length) (hf:f<es.length) (hef:e≠f):(bgTo n es e f es.length).length=es.length+3:=by
 have key:∀ k,k≤es.length→(bgTo n es e f k).length=k+1+(if e<k then 1 else 0)+(if f<k then 1 else 0):=by
  intro k
  induction k with
  | zero=>intro _;simp [bgTo]
  | succ k ih=>
   intro hk
   rw [bgTo_succ,List.length_append,ih (by omega)]
   unfold brB
   by_cases h1:k=e
   ·subst h1
    rw [if_pos rfl,if_neg (by omega:¬ k<k),if_pos (by omega:k<k+1)]
    have:(f<k)↔(f<k+1):=by omega
    simp only [this,List.length_cons,List.length_nil];omega
   ·rw [if_neg h1]
    have h2:(e<k)↔(e<k+1):=by omega
    by_cases h3:k=f
    ·subst h3
     rw [if_pos rfl,if_neg (by omega:¬ k<k),if_pos (by omega:k<k+1)]
     simp only [h2,List.length_cons,List.length_nil];omega
    ·rw [if_neg h3]
     have h4:(f<k)↔(f<k+1):=by omega
     simp only [h2,h4,List.length_cons,List.length_nil];omega
 rw [key es.length (Nat.le_refl _),if_pos he,if_pos hf]
theorem br_mem {x:Int × Int} (hg:IsG n es) (h:x∈bgTo n es e f es.length):0≤x.1∧x.1<x.2∧x.2≤n+1:=by
 have n0:=hg.ed.lo
 unfold bgTo at h
 rcases List.mem_cons.1 h with rfl|h
 ·show 0≤n∧n<n+1∧n+1≤n+1;omega
 ·obtain ⟨i,hi,h⟩:=List.mem_flatMap.1 h
  rw [List.mem_range] at hi
  obtain ⟨a,b,e1,e2,e3⟩:=edge_ends hg hi
  unfold brB at h
  rw [e1] at h
  split at h
  ·simp only [List.mem_cons,List.not_mem_nil,or_false] at h
   rcases h with rfl|rfl
   ·show 0≤(a:Int)∧(a:Int)<n∧n≤n+1;omega
   ·show 0≤(b:Int)∧(b:Int)<n∧n≤n+1;omega
  ·split at h
   ·simp only [List.mem_cons,List.not_mem_nil,or_false] at h
    rcases h with rfl|rfl
    ·show 0≤(a:Int)∧(a:Int)<n+1∧n+1≤n+1;omega
    ·show 0≤(b:Int)∧(b:Int)<n+1∧n+1≤n+1;omega
   ·rw [List.mem_singleton] at h
    subst h
    show 0≤(a:Int)∧(a:Int)<(b:Int)∧(b:Int)≤n+1;omega
theorem on_pair {a b x:Int}:on (a,b) x=true↔x=a∨x=b:=by
 unfold on
 simp only [Bool.or_eq_true,beq_iff_eq]
 omega
theorem br_on (hg:IsG n es) (he:e<es.length) (hf:f<es.length) (hef:e≠f) {v:Nat} (hv:(v:Int)<n+2):onN (bgTo n es e f es.length) v=3:=by
 have n0:=hg.ed.lo
 have key:∀ k,k≤es.length→onN (bgTo n es e f k) v=(if (v:Int)<n then onN (es.take k) v else 1+(if (v:Int)=n∧e<k then 2 else 0)+(if (v:Int)=n+1∧f<k then 2 else 0)):=by
  intro k
  induction k with
  | zero=>
   intro _
   have h0:bgTo n es e f 0=[(n,n+1)]:=rfl
   rw [h0,onN_cons]
   by_cases h:(v:Int)<n
   ·rw [if_pos h,if_neg (fun hh=>by have:=on_pair.1 hh;omega)]
    simp [onN]
   ·rw [if_neg h,if_pos (on_pair.2 (by omega)),if_neg (by omega),if_neg (by omega)]
    simp [onN]
  | succ k ih=>
   intro hk
   obtain ⟨a,b,e1,e2,e3⟩:=edge_ends hg (i:=k) (by omega)
   rw [bgTo_succ,onN_app,ih (by omega)]
   rw [List.take_succ_eq_append_getElem (by omega),onN_app,← getD_of (d:=(0,0)) (by omega)]
   unfold brB
   rw [e1]
   have nil:onN [] v=0:=rfl
   by_cases h:(v:Int)<n
   ·rw [if_pos h,if_pos h]
    congr 1
    have na:¬ (v:Int)=n:=by omega
    have nb:¬ (v:Int)=n+1:=by omega
    have one:∀ x:Int,(on ((a:Int),x) (v:Int)=true↔v=a∨(v:Int)=x):=fun x=>by rw [on_pair];omega
    split
    ·rw [onN_cons,onN_cons,onN_cons,nil]
     by_cases ha:v=a
     ·rw [if_pos (on_pair.2 (by omega)),if_neg (fun hh=>by have:=on_pair.1 hh;omega),if_pos (on_pair.2 (by omega))]
     ·by_cases hb:v=b
      ·rw [if_neg (fun hh=>by have:=on_pair.1 hh;omega),if_pos (on_pair.2 (by omega)),if_pos (on_pair.2 (by omega))]
      ·rw [if_neg (fun hh=>by have:=on_pair.1 hh;omega),if_neg (fun hh=>by have:=on_pair.1 hh;omega),if_neg (fun hh=>by have:=on_pair.1 hh;omega)]
    ·split
     ·rw [onN_cons,onN_cons,onN_cons,nil]
      by_cases ha:v=a
      ·rw [if_pos (on_pair.2 (by omega)),if_neg (fun hh=>by have:=on_pair.1 hh;omega),if_pos (on_pair.2 (by omega))]
      ·by_cases hb:v=b
       ·rw [if_neg (fun hh=>by have:=on_pair.1 hh;omega),if_pos (on_pair.2 (by omega)),if_pos (on_pair.2 (by omega))]
       ·rw [if_neg (fun hh=>by have:=on_pair.1 hh;omega),if_neg (fun hh=>by have:=on_pair.1 hh;omega),if_neg (fun hh=>by have:=on_pair.1 hh;omega)]
     ·rfl
   ·rw [if_neg h,if_neg h]
    have on1:∀ y:Nat,(y:Int)<n→∀ z:Int,(if on ((y:Int),z) (v:Int)=true then 1 else 0:Nat)=if (v:Int)=z then 1 else 0:=fun y hy z=>by
     by_cases hz:(v:Int)=z
     ·rw [if_pos hz,if_pos (on_pair.2 (.inr hz))]
     ·rw [if_neg hz,if_neg]
      intro hh
      rcases on_pair.1 hh with g|g
      ·omega
      ·exact hz g
    by_cases h1:k=e
    ·rw [if_pos h1,onN_cons,onN_cons,nil]
     show _+((if on ((a:Int),n) (v:Int)=true then 1 else 0)+((if on ((b:Int),n) (v:Int)=true then 1 else 0)+0))=_
     rw [on1 a (by omega) n,on1 b (by omega) n]
     have c1:¬ e<k:=by omega
     have c2:e<k+1:=by omega
     have c3:(f<k+1)↔(f<k):=by omega
     simp only [c1,c2,c3,and_false,and_true,if_false]
     by_cases hvn:(v:Int)=n
     ·rw [if_pos hvn,if_pos hvn,if_neg (show ¬ ((v:Int)=n+1∧f<k) from fun q=>by omega)]
     ·rw [if_neg hvn,if_neg hvn];omega
    ·rw [if_neg h1]
     have he':(e<k+1)↔(e<k):=by omega
     by_cases h2:k=f
     ·rw [if_pos h2,onN_cons,onN_cons,nil]
      show _+((if on ((a:Int),n+1) (v:Int)=true then 1 else 0)+((if on ((b:Int),n+1) (v:Int)=true then 1 else 0)+0))=_
      rw [on1 a (by omega) (n+1),on1 b (by omega) (n+1)]
      have c1:¬ f<k:=by omega
      have c2:f<k+1:=by omega
      simp only [c1,c2,he',and_false,and_true,if_false]
      by_cases hvn:(v:Int)=n+1
      ·rw [if_pos hvn,if_pos hvn,if_neg (show ¬ ((v:Int)=n∧e<k) from fun q=>by omega)]
      ·rw [if_neg hvn,if_neg hvn]
     ·have hf':(f<k+1)↔(f<k):=by omega
      rw [if_neg h2,onN_cons,nil]
      have:¬ on ((a:Int),(b:Int)) (v:Int)=true:=fun hh=>by
       rcases on_pair.1 hh with g|g <;> omega
      rw [if_neg this]
      simp only [he',hf',Nat.add_zero]
 rw [key es.length (Nat.le_refl _),List.take_length]
 by_cases h:(v:Int)<n
 ·rw [if_pos h];exact on3 hg h
 ·rw [if_neg h]
  by_cases h1:(v:Int)=n
  ·rw [if_pos ⟨h1,he⟩,if_neg (by omega)]
  ·rw [if_neg (by omega),if_pos ⟨by omega,hf⟩]
theorem brG_isG (hg:IsG n es) (hn:n+2≤20) (he:e<es.length) (hf:f<es.length) (hef:e≠f):IsG (n+2) (brG n es e f):=by
 have n0:=hg.ed.lo
 have hl:(brG n es e f).length=es.length+3:=by unfold brG;rw [srtE_length,br_len he hf hef]
 have hm:∀ x∈brG n es e f,0≤x.1∧x.1<x.2∧x.2≤n+1:=fun x hx=>br_mem hg ((srtE_perm _).mem_iff.1 hx)
 refine isG_of ⟨by omega,hn,by have:=hg.ed.even;omega,?_,fun x hx=>?_⟩ (fun x hx=>(hm x hx).2.1) (srt_srtE _) fun v hv=>?_
 ·have h1:=hg.ed.len
  have h2:=hg.ed.even
  rw [hl];omega
 ·have:=hm x hx;omega
 ·have:=onN_perm (srtE_perm (bgTo n es e f es.length)) v
  unfold brG
  rw [this,br_on hg he hf hef hv]
end Go.Proofs
namespace Go.Proofs
open Go.Abs

variable {H G:AHeap} {v u w:Value} {es fs:List (Int × Int)} {K:Value→AHeap→Prop} {n e f:Int}

theorem push_edge2 {m0:Nat} {x y:Int × Int} (hF:Fresh m0 H v 28 2 (LE es)) (hm:m0≤H.length) (hs:es.length<1000000)
 (k:∀ v' G,Keep m0 H G→Oth v H G→(∀ b,bk v'=some b→H.length≤b)→Fresh m0 G v' 28 2 (LE (es++[x,y]))→K v' G) :
 newK H [.int .i64 x.1,.int .i64 x.2,.int .i64 y.1,.int .i64 y.2] 28 (fun b1 H2=>apK T0 28 H2 v (.slice (some ⟨b1,0,none⟩) 2 (2+1)) K):=by
 refine hF.sl.pushN E_edge (by decide) hm (n:=2) (ys:=[.int .i64 x.1,.int .i64 x.2,.int .i64 y.1,.int .i64 y.2]) rfl rfl (by rw [LE_length];simp;omega) (by simp) fun v' G k1 ot nb f=>k v' G k1 ot nb ?_
 rw [LE_append];exact f
def brIB (n:Int) (es:List (Int × Int)) (e f i:Nat):List (Int × Int):=
 if i=e then [((es.getD i (0,0)).1,n),(n,(es.getD i (0,0)).2)] else if i=f then [((es.getD i (0,0)).1,n+1),(n+1,(es.getD i (0,0)).2)] else [es.getD i (0,0)]
def brI (n:Int) (es:List (Int × Int)) (e f k:Nat):List (Int × Int):=(n,n+1)::(List.range k).flatMap (brIB n es e f)
theorem brI_succ (n:Int) (es:List (Int × Int)) (e f k:Nat):brI n es e f (k+1)=brI n es e f k++brIB n es e f k:=by
 unfold brI
 rw [List.range_succ,List.flatMap_append]
 simp
theorem brI_len (n:Int) (es:List (Int × Int)) (e f:Nat):∀ k,(brI n es e f k).length≤2*k+1:=by
 intro k
 induction k with
 | zero=>simp [brI]
 | succ k ih=>
  rw [brI_succ,List.length_append]
  have:(brIB n es e f k).length≤2:=by unfold brIB;split <;> (try split) <;> simp
  omega
theorem bgTo_len (n:Int) (es:List (Int × Int)) (e f:Nat):∀ k,(bgTo n es e f k).length≤2*k+1:=by
 intro k
 induction k with
 | zero=>simp [bgTo]
 | succ k ih=>
  rw [bgTo_succ,List.length_append]
  have:(brB n es e f k).length≤2:=by unfold brB;split <;> (try split) <;> simp
  omega
theorem nrm_up {x:Int × Int} (h:x.1<x.2):nrmE x=x:=by
 unfold nrmE
 rw [if_neg (by omega),if_pos (by omega)]
theorem bgTo_nrm {e f:Nat} (hg:IsG n es):(bgTo n es e f es.length).map nrmE=bgTo n es e f es.length:=by
 have:∀ x∈bgTo n es e f es.length,nrmE x=id x:=fun x hx=>nrm_up (br_mem hg hx).2.1
 rw [List.map_congr_left this,List.map_id]
theorem brI_nrm {e f:Nat} (hg:IsG n es):(brI n es e f es.length).map nrmE=bgTo n es e f es.length:=by
 have n0:=hg.ed.lo
 have key:∀ k,k≤es.length→(brI n es e f k).map nrmE=bgTo n es e f k:=by
  intro k
  induction k with
  | zero=>
   intro _
   show [nrmE (n,n+1)]=[(n,n+1)]
   rw [nrm_up (by show n<n+1;omega)]
  | succ k ih=>
   intro hk
   rw [brI_succ,bgTo_succ,List.map_append,ih (by omega)]
   congr 1
   obtain ⟨a,b,e1,e2,e3⟩:=edge_ends hg (i:=k) (by omega)
   have up:∀ {x y:Int},x<y→nrmE (x,y)=(x,y):=fun {x y} h=>nrm_up h
   have dn:∀ {x y:Int},x<y→nrmE (y,x)=(x,y):=fun {x y} h=>by
    unfold nrmE
    show ((if x<y then x else y),(if x>y then x else y))=(x,y)
    rw [if_pos h,if_neg (by omega)]
   unfold brIB brB
   rw [e1]
   split
   ·show [nrmE ((a:Int),n),nrmE (n,(b:Int))]=_
    rw [up (by omega),dn (by omega)]
   ·split
    ·show [nrmE ((a:Int),n+1),nrmE (n+1,(b:Int))]=_
     rw [up (by omega),dn (by omega)]
    ·show [nrmE ((a:Int),(b:Int))]=_
     rw [up (by omega)]
 exact key es.length (Nat.le_refl _)
noncomputable def bgCode (n:Int) (es:List (Int × Int)) (e f:Int):Int:=
 if IsG n es then (if (0≤e∧e≤(es.length:Int)-1)∧(0≤f∧f≤(es.length:Int)-1) then (if e=f then 5 else if n+2>20 then 3 else 0) else 2) else 1
noncomputable def bgSize (n:Int) (es:List (Int × Int)) (e f:Int):Int:=if bgCode n es e f=0 then n+2 else 0
noncomputable def bgList (n:Int) (es:List (Int × Int)) (e f:Int):List (Int × Int):=if bgCode n es e f=0 then brG n es e.toNat f.toNat else []
theorem bg_zero (h:bgCode n es e f=0):IsG n es∧(0≤e∧e.toNat<es.length)∧(0≤f∧f.toNat<es.length)∧e.toNat≠f.toNat∧n+2≤20:=by
 unfold bgCode at h
 by_cases hg:IsG n es
 ·rw [if_pos hg] at h
  split at h
  ·split at h
   ·cases h
   ·split at h
    ·cases h
    ·rename_i h1 h2 h3
     exact ⟨hg,⟨h1.1.1,by omega⟩,⟨h1.2.1,by omega⟩,by omega,by omega⟩
  ·cases h
 ·rw [if_neg hg] at h;cases h
theorem bg_isG (h:bgCode n es e f=0):IsG (bgSize n es e f) (bgList n es e f):=by
 obtain ⟨hg,h1,h2,h3,h4⟩:=bg_zero h
 unfold bgSize bgList
 rw [if_pos h,if_pos h]
 exact brG_isG hg h4 h1.2 h2.2 h3
theorem limited_ok {fV:Value} (hn:n≤20) (hc:∀ H1,H.le H1→∀ K':Value→AHeap→Prop,(∀ v' G,H1.le G→Fresh H1.length G v' 28 2 (LE es)→K' v' G)→callV Tryz.prog T0 fV [] H1 K')
 (hl:es.length≤1048576) (h0:0<es.length) (k:∀ v' G,H.le G→Fresh H.length G v' 28 2 (LE (srtE (es.map nrmE)))→K (.tuple ⟨[.agg ⟨[.int .i64 n,v']⟩,.int .i64 0]⟩) G) :
 AC Tryz.prog T0 57 [.int .i64 n,fV] H K:=by
 apply F57.ac
 unfold F57.B4
 refine newK_f rfl fun H1 l1 n1 o1=>?_
 unfold F57.B3
 refine pif_f (decide_eq_false (by omega)) ?_
 unfold F57.B1
 refine hc H1 l1 _ fun v1 H2 l2 f2=>graphOf_ok f2.edges hl h0 fun v3 H3 l3 f3=>agg2_mk (asI_mk (stK_f (new:=[.int .i64 n,v3]) ((o1.le l2).le l3) (by simp) (mem_iv (fresh_one f3)) rfl fun H4 b4 o4=>ldI_own o4 rfl (ld1_own o4 rfl ?_)))
 have h1:=l1.1;have h2:=l2.1;have h3:=l3.1
 exact k v3 H4 (b4.le (AHeap.le_trans l1 (AHeap.le_trans l2 l3)) (Nat.le_refl _)) ((f3.but b4 (by omega)).less (by omega))
theorem bridge1_ok {pg pe pf:Nat} (hg:IsG n es) (h:Edges H v es) (og:Own H pg 31 [.int .i64 n,v]) (oe:Own H pe 2 [.int .i64 e]) (of:Own H pf 2 [.int .i64 f]) (he:0≤e) (hf:0≤f)
 (k:∀ v' G,H.le G→Fresh H.length G v' 28 2 (LE (brI n es e.toNat f.toNat es.length))→K v' G) :
 AC Tryz.prog T0 58 [.pointer (some ⟨pg,0,none⟩),.pointer (some ⟨pe,0,none⟩),.pointer (some ⟨pf,0,none⟩)] H K:=by
 have n0:=hg.ed.lo;have n1:=hg.ed.hi
 have h30:es.length≤30:=by have:=hg.ed.len;omega
 apply F58.ac
 unfold F58.B15 F58.B14
 refine asP_mk (ldI_own og rfl ?_)
 unfold F58.B13
 rw [wrap_id (by omega) (by omega)]
 refine newK_f rfl fun H1 l1 m1 o1=>?_
 unfold F58.B12
 refine asP_mk (ld1_own (og.le l1) rfl ((h.le l1).len ?_))
 unfold F58.L2
 refine ⟨fun x1 x2 x4 x5 x16 x17 x18 G=>.pointer (some ⟨pe,0,none⟩)=x1∧.pointer (some ⟨pf,0,none⟩)=x2∧n=x4∧v=x16∧(es.length:Int)=x17∧H.le G∧∃ i:Nat,x18=i∧i≤es.length∧Fresh H.length G x5 28 2 (LE (brI n es e.toNat f.toNat i)),
  fun _ _ _ _ _ _ x18 _=>es.length-x18.toNat,⟨rfl,rfl,rfl,rfl,rfl,l1,0,rfl,by omega,.inr ⟨_,1,Nat.le_refl _,rfl,o1,rfl⟩⟩,?_⟩
 rintro x1 x2 x4 x5 x16 x17 x18 G ⟨rfl,rfl,rfl,rfl,rfl,lG,i,rfl,hi,f5⟩
 unfold F58.B11
 refine pif_cases (fun hb=>?_) fun hb=>?_
 ·have hil:i<es.length:=by have:=of_decide_eq_true hb;omega
  have hbl:=brI_len n es e.toNat f.toNat i
  obtain ⟨eb,eo,hk,c1,c2⟩:=(h.le lG).idx (show (0:Int)≤i by omega) (by omega)
  simp only [Int.toNat_natCast] at c1 c2
  unfold F58.B10
  refine hk _ (ldI_mk c1 (ldI_mk c2 (newK_f rfl fun G1 l1' n1' o1'=>stK_f (new:=[.int .i64 (es.getD i (0,0)).1,.int .i64 (es.getD i (0,0)).2]) o1' (by simp) (by simp [Value.oneCell']) rfl fun G2 b2 o2=>?_)))
  have l2:G.le G2:=b2.le l1' (Nat.le_refl _)
  have lG2:=AHeap.le_trans lG l2
  have hG2:=lG2.1
  have fin:∀ v' G3,Keep H.length G2 G3→Fresh H.length G3 v' 28 2 (LE (brI n es e.toNat f.toNat (i+1)))→(H.le G3∧∃ i':Nat,IntKind.i64.wrap ((i:Int)+1)=i'∧i'≤es.length∧Fresh H.length G3 v' 28 2 (LE (brI n es e.toNat f.toNat i')))∧es.length-(IntKind.i64.wrap ((i:Int)+1)).toNat<es.length-(i:Int).toNat:=fun v' G3 k3 f3=>by
   rw [wrap_id (by omega) (by omega)]
   exact ⟨⟨k3.le lG2 (Nat.le_refl _),i+1,by omega,by omega,f3⟩,by omega⟩
  unfold F58.B9 F58.B8
  refine asP_mk (ldI_own (oe.le lG2) rfl (pif_cases (fun hie=>?_) fun hie=>?_))
  ·have hie:i=e.toNat:=by have:=beq_iff_eq.1 hie;omega
   unfold F58.B4
   refine ldI_own o2 rfl (ldI_own o2 rfl (push_edge2 (x:=((es.getD i (0,0)).1,n)) (y:=(n,(es.getD i (0,0)).2)) (f5.le l2) hG2 (by omega) fun v' G3 k3 _ _ f3=>?_))
   unfold F58.B3
   obtain ⟨q1,q2⟩:=fin v' G3 k3 (by rw [brI_succ];unfold brIB;rw [if_pos hie];exact f3)
   exact ⟨⟨rfl,rfl,rfl,rfl,rfl,q1⟩,q2⟩
  ·have hie:¬ i=e.toNat:=by have:=beq_eq_false_iff_ne.1 hie;omega
   unfold F58.B7
   refine asP_mk (ldI_own (of.le lG2) rfl (pif_cases (fun hif=>?_) fun hif=>?_))
   ·have hif:i=f.toNat:=by have:=beq_iff_eq.1 hif;omega
    unfold F58.B5
    rw [wrap_id (x:=n+1) (by omega) (by omega)]
    refine ldI_own o2 rfl (ldI_own o2 rfl (push_edge2 (x:=((es.getD i (0,0)).1,n+1)) (y:=(n+1,(es.getD i (0,0)).2)) (f5.le l2) hG2 (by omega) fun v' G3 k3 _ _ f3=>?_))
    unfold F58.B3
    obtain ⟨q1,q2⟩:=fin v' G3 k3 (by rw [brI_succ];unfold brIB;rw [if_neg hie,if_pos hif];exact f3)
    exact ⟨⟨rfl,rfl,rfl,rfl,rfl,q1⟩,q2⟩
   ·have hif:¬ i=f.toNat:=by have:=beq_eq_false_iff_ne.1 hif;omega
    unfold F58.B6
    refine ldI_own o2 rfl (ldI_own o2 rfl (push_edge (x:=es.getD i (0,0)) (f5.le l2) hG2 (by omega) fun v' G3 k3 _ _ f3=>?_))
    unfold F58.B3
    obtain ⟨q1,q2⟩:=fin v' G3 k3 (by rw [brI_succ];unfold brIB;rw [if_neg hie,if_neg hif];exact f3)
    exact ⟨⟨rfl,rfl,rfl,rfl,rfl,q1⟩,q2⟩
 ·have hil:i=es.length:=by have:=of_decide_eq_false hb;omega
  subst hil
  unfold F58.B1
  exact k _ _ lG f5
theorem brI_pos (n:Int) (es:List (Int × Int)) (e f k:Nat):0<(brI n es e f k).length:=by unfold brI;simp
theorem implBridge_ok (h:Edges H v es) (hl:es.length≤1048576) (k:∀ w G,H.le G→Fresh H.length G w 28 2 (LE (bgList n es e f))→K (.tuple ⟨[.agg ⟨[.int .i64 (bgSize n es e f),w]⟩,.int .i64 (bgCode n es e f)]⟩) G) :
 AC Tryz.prog T0 10 [.agg ⟨[.int .i64 n,v]⟩,.int .i64 e,.int .i64 f] H K:=by
 apply F10.ac
 unfold F10.B7
 refine newK_f (all_iv (edges_one' h)) fun H1 l1 m1 o1=>newK_f rfl fun H2 l2 m2 o2=>newK_f rfl fun H3 l3 m3 o3=>newK_f rfl fun H4 l4 m4 o4=>?_
 obtain ⟨a,ha⟩:∃ a,a=H1.length:=⟨_,rfl⟩
 obtain ⟨b,hb⟩:∃ b,b=H2.length:=⟨_,rfl⟩
 obtain ⟨c,hc⟩:∃ c,c=H3.length:=⟨_,rfl⟩
 have l04:=AHeap.le_trans l1 (AHeap.le_trans l2 (AHeap.le_trans l3 l4))
 have o1:=((o1.le l2).le l3).le l4
 have o2:=(o2.le l3).le l4
 have o3:=o3.le l4
 rw [← ha] at o2 ⊢;rw [← hb] at o3 ⊢;rw [← hc] at o4 ⊢
 have hE:=h.le l04
 have u1:=l1.1;have u2:=l2.1;have u3:=l3.1;have u4:=l4.1
 have nil0:∀ {x:Int} {z:Nat} {G:AHeap},H4.le G→bgCode n es e f=x→x≠0→stK G c 0 [.int .i64 0,.slice none 0 0] (fun H1=>ldI .i64 H1 c 0 (fun v2=>ld1 H1 c 1 (fun v3=>K (.tuple ⟨[.agg ⟨[.int .i64 v2,v3]⟩,.int .i64 x]⟩) H1))):=fun {x z G} hG hx h0=>by
  refine stK_f (new:=[.int .i64 0,.slice none 0 0]) (o4.le hG) (by simp) (by simp [Value.oneCell']) rfl fun G2 b2 p2=>ldI_own p2 rfl (ld1_own p2 rfl ?_)
  have hne:bgCode n es e f≠0:=by rw [hx];exact h0
  have q:=k (.slice none 0 0) G2 (b2.le (AHeap.le_trans l04 hG) (by omega)) (by unfold bgList;rw [if_neg hne];exact .inl ⟨rfl,.inl rfl⟩)
  rw [hx] at q
  unfold bgSize at q
  rwa [if_neg hne] at q
 have body:∀ G,H4.le G→F10.B5 K H.length a b c (if IsG n es then (if (decide (0≤e∧e≤(es.length:Int)-1)&&decide (0≤f∧f≤(es.length:Int)-1)) then 0 else 2) else 1) G:=fun G hG=>by
  unfold F10.B5
  by_cases hg:IsG n es
  ·rw [if_pos hg]
   by_cases hr:(0≤e∧e≤(es.length:Int)-1)∧(0≤f∧f≤(es.length:Int)-1)
   ·rw [if_pos (by rw [Bool.and_eq_true,decide_eq_true_iff,decide_eq_true_iff];exact hr)]
    refine pif_f rfl ?_
    unfold F10.B3
    refine ldI_own (o2.le hG) rfl (ldI_own (o3.le hG) rfl (pif_cases (fun hef=>?_) fun hef=>?_))
    ·have hef:e=f:=beq_iff_eq.1 hef
     unfold F10.B2
     exact nil0 (z:=0) hG (by unfold bgCode;rw [if_pos hg,if_pos hr,if_pos hef]) (by decide)
    ·have hef:¬ e=f:=beq_eq_false_iff_ne.1 hef
     unfold F10.B1
     have n0:=hg.ed.lo;have n1:=hg.ed.hi
     refine ldI_own (o1.le hG) rfl ?_
     rw [wrap_id (by omega) (by omega)]
     by_cases h20:n+2>20
     ·have hx:bgCode n es e f=3:=by unfold bgCode;rw [if_pos hg,if_pos hr,if_neg hef,if_pos h20]
      apply F57.ac
      unfold F57.B4
      refine newK_f rfl fun G1 g1 q1 p1=>?_
      unfold F57.B3
      refine pif_t (decide_eq_true (by omega)) ?_
      unfold F57.B2
      refine stK_f (new:=[.int .i64 0,.slice none 0 0]) p1 (by simp) (by simp [Value.oneCell']) rfl fun G2 b2 p2=>ldI_own p2 rfl (ld1_own p2 rfl (tup2_mk (agg2_mk (asI_mk (asI_mk ?_)))))
      have:=nil0 (z:=0) (G:=G2) (AHeap.le_trans hG (b2.le g1 (Nat.le_refl _))) hx (by decide)
      exact this
     ·have hx:bgCode n es e f=0:=by unfold bgCode;rw [if_pos hg,if_pos hr,if_neg hef,if_neg h20]
      obtain ⟨_,z1,z2,z3,z4⟩:=bg_zero hx
      have h30:es.length≤30:=by have:=hg.ed.len;omega
      have hbl:=brI_len n es e.toNat f.toNat es.length
      refine limited_ok (es:=brI n es e.toNat f.toNat es.length) (by omega) (fun G1 g1 K' hK=>callV_mk ?_) (by omega) (brI_pos _ _ _ _ _) fun w G2 g2 f2=>tup2_mk (agg2_mk (asI_mk (asI_mk ?_)))
      ·have g:=AHeap.le_trans hG g1
       exact bridge1_ok hg (hE.le g) (o1.le g) (o2.le g) (o3.le g) (by omega) (by omega) hK
      ·rw [brI_nrm hg] at f2
       refine stK_f (new:=[.int .i64 (n+2),w]) (o4.le (AHeap.le_trans hG g2)) (by simp) (mem_iv (fresh_one f2)) rfl fun G3 b3 p3=>ldI_own p3 rfl (ld1_own p3 rfl ?_)
       have u5:=hG.1
       have q:=k w G3 (b3.le (AHeap.le_trans l04 (AHeap.le_trans hG g2)) (by omega)) (by unfold bgList;rw [if_pos hx];exact (f2.but b3 (by omega)).less (by omega))
       rw [hx] at q
       unfold bgSize at q
       rwa [if_pos hx] at q
   ·rw [if_neg (by rw [Bool.and_eq_true,decide_eq_true_iff,decide_eq_true_iff];exact hr)]
    refine pif_t rfl ?_
    unfold F10.B4
    exact nil0 (z:=0) hG (by unfold bgCode;rw [if_pos hg,if_neg hr]) (by decide)
  ·rw [if_neg hg]
   refine pif_t rfl ?_
   unfold F10.B4
   exact nil0 (z:=0) hG (by unfold bgCode;rw [if_neg hg]) (by decide)
 unfold F10.B6
 refine ldI_own o1 rfl (ld1_own o1 rfl (ldI_own o1 rfl (ld1_own o1 rfl (ldI_own o2 rfl (isEdge_ok hE hl fun H5 l5=>asB_mk ⟨l5,pif_cases (fun he=>?_) fun he=>?_⟩)))))
 ·refine ldI_own (o1.le l5) rfl (ld1_own (o1.le l5) rfl (ldI_own (o3.le l5) rfl (isEdge_ok (hE.le l5) hl fun H6 l6=>asB_mk ⟨l6,graphCode_ok ((hE.le l5).le l6) hl fun H7 l7=>asI_mk ?_⟩)))
  have:=body H7 (AHeap.le_trans l5 (AHeap.le_trans l6 l7))
  rw [he,Bool.true_and] at this
  exact this
 ·refine graphCode_ok (hE.le l5) hl fun H7 l7=>asI_mk ?_
  have:=body H7 (AHeap.le_trans l5 l7)
  rw [he,Bool.false_and] at this
  exact this
theorem l06Edges_ok (h:Edges H v es) (hl:es.length≤1048576) {l:List Int} (hs:Ints H u l) (hll:l.length≤1000) (k:∀ G,H.le G→K (.int .i64 (if IsG n es then (if ∀ x∈l,0≤x∧x≤(es.length:Int)-1 then 0 else 2) else 1)) G) :
 AC Tryz.prog T0 59 [.agg ⟨[.int .i64 n,v]⟩,u] H K:=by
 apply F59.ac
 unfold F59.B10
 refine newK_f (all_iv (edges_one' h)) fun H1 l1 m1 o1=>?_
 unfold F59.B9
 refine ldI_own o1 rfl (ld1_own o1 rfl (l01Is_ok (h.le l1) hl fun H2 l2=>asB_mk (pif_cases (fun hg=>?_) fun hg=>?_)))
 ·have hg:¬ IsG n es:=by rw [Bool.not_eq_true'] at hg;exact of_decide_eq_false hg
  unfold F59.B8
  rw [if_neg hg] at k
  exact k H2 (AHeap.le_trans l1 l2)
 ·have hg:IsG n es:=by rw [Bool.not_eq_false'] at hg;exact of_decide_eq_true hg
  rw [if_pos hg] at k
  have n1:=hg.ed.hi
  have h30:es.length≤30:=by have:=hg.ed.len;omega
  have l12:=AHeap.le_trans l1 l2
  have o2:=o1.le l2
  unfold F59.B7 F59.L2
  refine ⟨fun x1 x2 x5 G=>u=x1∧H.length=x2∧H2=G∧∃ i:Nat,x5=i∧i≤l.length∧∀ j,j<i→0≤l.getD j 0∧l.getD j 0≤(es.length:Int)-1,fun _ _ x5 _=>l.length-x5.toNat,⟨rfl,rfl,rfl,0,rfl,by omega,fun j hj=>by omega⟩,?_⟩
  rintro x1 x2 x5 G ⟨rfl,rfl,rfl,i,rfl,hi,hp⟩
  have hs2:=hs.le l12
  unfold F59.B6
  refine hs2.len (pif_cases (fun hb=>?_) fun hb=>?_)
  ·have hil:i<l.length:=by have:=of_decide_eq_true hb;omega
   unfold F59.B5
   refine hs2.rd (by omega) (by omega) (ld1_own o2 rfl ((h.le l12).len ?_))
   rw [wrap_id (by omega) (by omega),Int.toNat_natCast]
   refine l01In_ok (asB_mk (pif_cases (fun hb=>?_) fun hb=>?_))
   ·have hn:¬ (0≤l.getD i 0∧l.getD i 0≤(es.length:Int)-1):=by rw [Bool.not_eq_true'] at hb;exact of_decide_eq_false hb
    unfold F59.B4
    have:=k H2 l12
    rwa [if_neg (fun hh=>hn (hh _ (by rw [getD_of hil];exact List.getElem_mem hil)))] at this
   ·have hn:0≤l.getD i 0∧l.getD i 0≤(es.length:Int)-1:=by rw [Bool.not_eq_false'] at hb;exact of_decide_eq_true hb
    unfold F59.B3
    rw [wrap_id (by omega) (by omega)]
    refine ⟨⟨rfl,rfl,rfl,i+1,by omega,by omega,fun j hj=>?_⟩,by show l.length-((i:Int)+1).toNat<l.length-(i:Int).toNat;omega⟩
    by_cases e:j=i
    ·subst e;exact hn
    ·exact hp j (by omega)
  ·have hil:i=l.length:=by have:=of_decide_eq_false hb;omega
   unfold F59.B1
   have:=k H2 l12
   rwa [if_pos (fun x hx=>by
    obtain ⟨j,hj,rfl⟩:=List.getElem_of_mem hx
    have:=hp j (by omega)
    rwa [getD_of hj] at this)] at this
theorem specBridge_ok (h:Edges H v es) (hl:es.length≤1048576) (k:∀ w G,H.le G→Fresh H.length G w 28 2 (LE (bgList n es e f))→K (.tuple ⟨[.agg ⟨[.int .i64 (bgSize n es e f),w]⟩,.int .i64 (bgCode n es e f)]⟩) G) :
 AC Tryz.prog T0 11 [.agg ⟨[.int .i64 n,v]⟩,.int .i64 e,.int .i64 f] H K:=by
 apply F11.ac
 unfold F11.B21
 refine newK_f (all_iv (edges_one' h)) fun H1 l1 m1 o1=>newK_f rfl fun H2 l2 m2 o2=>?_
 obtain ⟨c,hc⟩:∃ c,c=H1.length:=⟨_,rfl⟩
 rw [← hc] at o2 ⊢
 have o1:=o1.le l2
 have l02:=AHeap.le_trans l1 l2
 have u1:=l1.1;have u2:=l2.1
 unfold F11.B20
 refine ldI_own o1 rfl (ld1_own o1 rfl (newK_f rfl fun H3 l3 m3 o3=>?_))
 have hs:Ints H3 (.slice (some ⟨H2.length,0,none⟩) 2 (2+1)) [e,f]:=Fresh.ints (m:=0) (.inr ⟨_,2,Nat.zero_le _,rfl,o3,rfl⟩)
 refine l06Edges_ok ((h.le l02).le l3) hl hs (by simp) fun H4 l4=>asI_mk ?_
 have l24:=AHeap.le_trans l3 l4
 have l04:=AHeap.le_trans l02 l24
 have o1:=o1.le l24
 have o2:=o2.le l24
 have u4:=l24.1
 have nil0:∀ {x:Int},bgCode n es e f=x→x≠0→stK H4 c 0 [.int .i64 0,.slice none 0 0] (fun H1=>ldI .i64 H1 c 0 (fun v2=>ld1 H1 c 1 (fun v3=>K (.tuple ⟨[.agg ⟨[.int .i64 v2,v3]⟩,.int .i64 x]⟩) H1))):=fun {x} hx h0=>by
  refine stK_f (new:=[.int .i64 0,.slice none 0 0]) o2 (by simp) (by simp [Value.oneCell']) rfl fun G2 b2 p2=>ldI_own p2 rfl (ld1_own p2 rfl ?_)
  have hne:bgCode n es e f≠0:=by rw [hx];exact h0
  have q:=k (.slice none 0 0) G2 (b2.le l04 (by omega)) (by unfold bgList;rw [if_neg hne];exact .inl ⟨rfl,.inl rfl⟩)
  rw [hx] at q
  unfold bgSize at q
  rwa [if_neg hne] at q
 have hmem:(∀ x∈[e,f],0≤x∧x≤(es.length:Int)-1)↔(0≤e∧e≤(es.length:Int)-1)∧(0≤f∧f≤(es.length:Int)-1):=by simp
 unfold F11.B19
 by_cases hg:IsG n es
 ·rw [if_pos hg]
  by_cases hr:(0≤e∧e≤(es.length:Int)-1)∧(0≤f∧f≤(es.length:Int)-1)
  ·rw [if_pos (hmem.2 hr)]
   refine pif_f rfl ?_
   unfold F11.B17
   refine pif_cases (fun hef=>?_) fun hef=>?_
   ·have hef:e=f:=beq_iff_eq.1 hef
    unfold F11.B16
    exact nil0 (by unfold bgCode;rw [if_pos hg,if_pos hr,if_pos hef]) (by decide)
   ·have hef:¬ e=f:=beq_eq_false_iff_ne.1 hef
    have n0:=hg.ed.lo;have n1:=hg.ed.hi
    have h30:es.length≤30:=by have:=hg.ed.len;omega
    unfold F11.B15
    refine ldI_own o1 rfl ?_
    rw [wrap_id (by omega) (by omega)]
    refine pif_cases (fun h20=>?_) fun h20=>?_
    ·have h20:n+2>20:=of_decide_eq_true h20
     unfold F11.B14
     exact nil0 (by unfold bgCode;rw [if_pos hg,if_pos hr,if_neg hef,if_pos h20]) (by decide)
    ·have h20:¬ n+2>20:=of_decide_eq_false h20
     have hx:bgCode n es e f=0:=by unfold bgCode;rw [if_pos hg,if_pos hr,if_neg hef,if_neg h20]
     have hE:=h.le l04
     unfold F11.B13
     refine ldI_own o1 rfl (ldI_own o1 rfl ?_)
     rw [wrap_id (by omega) (by omega)]
     refine newK_f rfl fun H5 l5 m5 o5=>?_
     unfold F11.B12 F11.L2
     refine ⟨fun x1 x2 x3 x6 x9 x10 G=>e=x1∧f=x2∧H.length=x3∧c=x6∧H4.le G∧∃ i:Nat,x10=i∧i≤es.length∧Fresh H4.length G x9 28 2 (LE (bgTo n es e.toNat f.toNat i)),
      fun _ _ _ _ _ x10 _=>es.length-x10.toNat,⟨rfl,rfl,rfl,rfl,l5,0,rfl,by omega,.inr ⟨_,1,Nat.le_refl _,rfl,o5,rfl⟩⟩,?_⟩
     rintro x1 x2 x3 x6 x9 x10 G ⟨rfl,rfl,rfl,rfl,lG,i,rfl,hi,f9⟩
     unfold F11.B11
     refine ld1_own (o1.le lG) rfl ((hE.le lG).len (pif_cases (fun hb=>?_) fun hb=>?_))
     ·have hil:i<es.length:=by have:=of_decide_eq_true hb;omega
      have hbl:=bgTo_len n es e.toNat f.toNat i
      obtain ⟨eb,eo,hk,c1,c2⟩:=(hE.le lG).idx (show (0:Int)≤i by omega) (by omega)
      simp only [Int.toNat_natCast] at c1 c2
      unfold F11.B10
      refine ld1_own (o1.le lG) rfl (hk _ (ldI_mk c1 (ldI_mk c2 (newK_f rfl fun G1 l1' n1' o1'=>stK_f (new:=[.int .i64 (es.getD i (0,0)).1,.int .i64 (es.getD i (0,0)).2]) o1' (by simp) (by simp [Value.oneCell']) rfl fun G2 b2 p2=>?_))))
      have l2':G.le G2:=b2.le l1' (Nat.le_refl _)
      have lG2:=AHeap.le_trans lG l2'
      have hG2:=lG2.1
      have fin:∀ v' G3,Keep H4.length G2 G3→Fresh H4.length G3 v' 28 2 (LE (bgTo n es e.toNat f.toNat (i+1)))→(H4.le G3∧∃ i':Nat,IntKind.i64.wrap ((i:Int)+1)=i'∧i'≤es.length∧Fresh H4.length G3 v' 28 2 (LE (bgTo n es e.toNat f.toNat i')))∧es.length-(IntKind.i64.wrap ((i:Int)+1)).toNat<es.length-(i:Int).toNat:=fun v' G3 k3 f3=>by
       rw [wrap_id (by omega) (by omega)]
       exact ⟨⟨k3.le lG2 (Nat.le_refl _),i+1,by omega,by omega,f3⟩,by omega⟩
      have p1:=o1.le lG2
      unfold F11.B9 F11.B8
      refine pif_cases (fun hie=>?_) fun hie=>?_
      ·have hie:i=e.toNat:=by have:=beq_iff_eq.1 hie;omega
       unfold F11.B4
       refine ldI_own p2 rfl (ldI_own p1 rfl (ldI_own p2 rfl (ldI_own p1 rfl (push_edge2 (x:=((es.getD i (0,0)).1,n)) (y:=((es.getD i (0,0)).2,n)) (f9.le l2') hG2 (by omega) fun v' G3 k3 _ _ f3=>?_))))
       unfold F11.B3
       obtain ⟨q1,q2⟩:=fin v' G3 k3 (by rw [bgTo_succ];unfold brB;rw [if_pos hie];exact f3)
       exact ⟨⟨rfl,rfl,rfl,rfl,q1⟩,q2⟩
      ·have hie:¬ i=e.toNat:=by have:=beq_eq_false_iff_ne.1 hie;omega
       unfold F11.B7
       refine pif_cases (fun hif=>?_) fun hif=>?_
       ·have hif:i=f.toNat:=by have:=beq_iff_eq.1 hif;omega
        unfold F11.B5
        refine ldI_own p2 rfl (ldI_own p1 rfl (ldI_own p2 rfl (ldI_own p1 rfl ?_)))
        rw [wrap_id (x:=n+1) (by omega) (by omega)]
        refine push_edge2 (x:=((es.getD i (0,0)).1,n+1)) (y:=((es.getD i (0,0)).2,n+1)) (f9.le l2') hG2 (by omega) fun v' G3 k3 _ _ f3=>?_
        unfold F11.B3
        obtain ⟨q1,q2⟩:=fin v' G3 k3 (by rw [bgTo_succ];unfold brB;rw [if_neg hie,if_pos hif];exact f3)
        exact ⟨⟨rfl,rfl,rfl,rfl,q1⟩,q2⟩
       ·have hif:¬ i=f.toNat:=by have:=beq_eq_false_iff_ne.1 hif;omega
        unfold F11.B6
        refine ldI_own p2 rfl (ldI_own p2 rfl (push_edge (x:=es.getD i (0,0)) (f9.le l2') hG2 (by omega) fun v' G3 k3 _ _ f3=>?_))
        unfold F11.B3
        obtain ⟨q1,q2⟩:=fin v' G3 k3 (by rw [bgTo_succ];unfold brB;rw [if_neg hie,if_neg hif];exact f3)
        exact ⟨⟨rfl,rfl,rfl,rfl,q1⟩,q2⟩
     ·have hil:i=es.length:=by have:=of_decide_eq_false hb;omega
      subst hil
      have hbl:=bgTo_len n es e.toNat f.toNat es.length
      unfold F11.B1
      refine ldI_own (o1.le lG) rfl ?_
      rw [wrap_id (by omega) (by omega)]
      refine l01Made_ok f9.edges (by omega) fun w G2 g2 f2=>agg2_mk (asI_mk ?_)
      rw [bgTo_nrm hg] at f2
      have u5:=lG.1
      refine stK_f (new:=[.int .i64 (n+2),w]) (o2.le (AHeap.le_trans lG g2)) (by simp) (mem_iv (fresh_one f2)) rfl fun G3 b3 p3=>ldI_own p3 rfl (ld1_own p3 rfl ?_)
      have q:=k w G3 (b3.le (AHeap.le_trans l04 (AHeap.le_trans lG g2)) (by omega)) (by unfold bgList;rw [if_pos hx];exact (f2.but b3 (by omega)).less (by omega))
      rw [hx] at q
      unfold bgSize at q
      rwa [if_pos hx] at q
  ·rw [if_neg (fun hh=>hr (hmem.1 hh))]
   refine pif_t rfl ?_
   unfold F11.B18
   exact nil0 (by unfold bgCode;rw [if_pos hg,if_neg hr]) (by decide)
 ·rw [if_neg hg]
  refine pif_t rfl ?_
  unfold F11.B18
  exact nil0 (by unfold bgCode;rw [if_neg hg]) (by decide)
theorem graph9_ok {m:Int} (hn:n=m) (h:Edges H v es) (g:Edges H u es) (hl:es.length≤1000000) (k:∀ G,H.le G→K (.bool true) G):AC Tryz.prog T0 12 [.agg ⟨[.int .i64 n,v]⟩,.agg ⟨[.int .i64 m,u]⟩] H K:=by
 subst hn
 apply F12.ac
 unfold F12.B10
 refine newK_f (all_iv (edges_one' h)) fun H1 l1 m1 o1=>newK_f (all_iv (edges_one' g)) fun H2 l2 m2 o2=>?_
 have o1:=o1.le l2
 have l02:=AHeap.le_trans l1 l2
 have h:=h.le l02
 have g:=g.le l02
 unfold F12.B9
 refine ldI_own o1 rfl (ldI_own o2 rfl (pif_f (by simp) (ld1_own o1 rfl (h.len (ld1_own o2 rfl (g.len (pif_f (by simp) ?_)))))))
 unfold F12.B7 F12.L2
 refine ⟨fun x2 x3 x5 G=>H.length=x2∧H1.length=x3∧H2=G∧∃ i:Nat,x5=i∧i≤es.length,fun _ _ x5 _=>es.length-x5.toNat,⟨rfl,rfl,rfl,0,rfl,by omega⟩,?_⟩
 rintro x2 x3 x5 G ⟨rfl,rfl,rfl,i,rfl,hi⟩
 unfold F12.B6
 refine ld1_own o1 rfl (h.len (pif_cases (fun hb=>?_) fun hb=>?_))
 ·have hil:i<es.length:=by have:=of_decide_eq_true hb;omega
  obtain ⟨eb,eo,hk,c1,c2⟩:=h.idx (show (0:Int)≤i by omega) (by omega)
  obtain ⟨fb,fo,hk',d1,d2⟩:=g.idx (show (0:Int)≤i by omega) (by omega)
  unfold F12.B5
  refine ld1_own o1 rfl (hk _ (ldI_mk c1 (ldI_mk c2 (ld1_own o2 rfl (hk' _ (ldI_mk d1 (ldI_mk d2 (pif_f (by simp) ?_))))))))
  unfold F12.B3
  rw [wrap_id (by omega) (by omega)]
  exact ⟨⟨rfl,rfl,rfl,i+1,by omega,by omega⟩,by show es.length-((i:Int)+1).toNat<es.length-(i:Int).toNat;omega⟩
 ·unfold F12.B1
  exact k H2 l02
end Go.Proofs
namespace Go.Proofs
open Go.Abs

variable {H G:AHeap} {v u f:Value} {l m c D:List Int} {es fs:List (Int × Int)} {K:Value→AHeap→Prop} {A A':Nat→Prop} {B:Nat} {ls ms cs:List (List Int)}

def oddSum (l:List Nat):Nat:=(l.map (· % 2)).sum
theorem oddSum_snoc (l:List Nat) (x:Nat):oddSum (l++[x])=oddSum l+x%2:=by unfold oddSum;simp
theorem oddSum_le (l:List Nat):oddSum l≤l.length:=by
 unfold oddSum
 induction l with
 | nil=>simp
 | cons a l ih=>simp;omega
theorem tmod2 (x:Nat):Int.tmod ((x:Nat):Int) 2=((x%2:Nat):Int):=by
 rw [Int.tmod_eq_emod_of_nonneg (by omega)];omega
section
variable {p p':Nat→Bool}
theorem eAdj_congr (h:∀ j,j<es.length→p j=p' j):eAdj es p=eAdj es p':=by
 funext i j
 unfold eAdj
 rw [eq_iff_iff]
 constructor
 ·rintro ⟨h1,h2,h3⟩;exact ⟨h1,by rw [← h j h1];exact h2,h3⟩
 ·rintro ⟨h1,h2,h3⟩;exact ⟨h1,by rw [h j h1];exact h2,h3⟩
theorem lensTo_congr (h:∀ j,j<es.length→p j=p' j):∀ k,k≤es.length→lensTo es p k=lensTo es p' k
 | 0,_=>rfl
 | k+1,hk=>by
  have hc:compL es p k=compL es p' k:=by unfold compL;rw [eAdj_congr h]
  have hl:cLeadB es p k=cLeadB es p' k:=by
   rw [Bool.eq_iff_iff,cLeadB_iff,cLeadB_iff]
   unfold cLead
   rw [eAdj_congr h]
   constructor
   ·intro g j h1 h2;exact g j h1 (by rw [h j (by omega)];exact h2)
   ·intro g j h1 h2;exact g j h1 (by rw [← h j (by omega)];exact h2)
  rw [lensTo,lensTo,lensTo_congr h k (by omega),hc,hl,h k (by omega)]
theorem cycN_lens (hm:es.length≤64):∀ k,(cycN es p (filtB p k)).map (fun z=>popc z 64)=lensTo es p k
 | 0=>rfl
 | k+1=>by
  have ih:=cycN_lens hm k
  unfold cycN at ih ⊢
  rw [filtB_succ,List.filter_append,List.map_append,List.map_append,ih,lensTo]
  congr 1
  cases h1:p k with
  | false=>simp
  | true=>
   cases h2:cLeadB es p k with
   | false=>simp [h2]
   | true=>
    have:popc (compN es p k) 64=(compL es p k).length:=by rw [← compN_list hm];rfl
    simp [h2,this]
end
noncomputable def oddN (es:List (Int × Int)) (l:List Int):Nat:=oddSum (lensTo es (leftP l) es.length)
theorem lensTo_length (es:List (Int × Int)) (p:Nat→Bool):∀ k,(lensTo es p k).length≤k
 | 0=>Nat.le_refl _
 | k+1=>by
  have:=lensTo_length es p k
  rw [lensTo,List.length_append]
  split <;> simp <;> omega
theorem oddN_le (es:List (Int × Int)) (l:List Int):oddN es l≤es.length:=Nat.le_trans (oddSum_le _) (lensTo_length _ _ _)
theorem left_ok {n:Int} (h:Edges H v es) (hg:IsG n es) (hS:IsS l es.length)
 (k:∀ v' G Z,H.le G→Fresh H.length G v' 83 1 (LU Z)→Z.map (fun z=>popc z 64)=lensTo es (leftP l) es.length→(∀ z∈Z,z<2^64)→K v' G):AC Tryz.prog T0 102 [.agg ⟨[.int .i64 n,v]⟩,.int .u64 (setN l:Nat)] H K:=by
 have h30:es.length≤30:=by have:=hg.ed.len;have:=hg.ed.hi;omega
 have hs:setN l<2^64:=setN_lt fun x hx=>by have:=hS.range x hx;omega
 have hp:(2:Nat)^es.length<2^61:=Nat.pow_lt_pow_right (by decide) (by omega)
 have hp64:(2:Nat)^61<2^64:=by decide
 have hmp:=Nat.two_pow_pos es.length
 apply F102.ac
 unfold F102.B2
 refine newK_f (all_iv (edges_one' h)) fun H1 l1 _ o1=>?_
 unfold F102.B1
 refine ldI_own o1 rfl (ld1_own o1 rfl (ldI_own o1 rfl (ld1_own o1 rfl (every_ok (h.le l1) (by omega) fun H2 l2=>asI_mk ⟨l2,?_⟩))))
 rw [bits_andnot (by omega) hs]
 obtain ⟨X,hX⟩:∃ X,X=(2^es.length-1)&&&(2^64-(setN l+1)):=⟨_,rfl⟩
 rw [← hX]
 have hXl:X<2^64:=by rw [hX];exact Nat.lt_of_le_of_lt Nat.and_le_left (by omega)
 have hXb:∀ j,X.testBit j=(decide (j<es.length)&&leftP l j):=fun j=>by rw [hX,andnot_bit (by omega) hs,Nat.testBit_two_pow_sub_one];rfl
 have l12:=AHeap.le_trans l1 l2
 refine cycles_ok (h.le l12) hg hXl (fun j hj=>by rw [hXb,Bool.and_eq_true] at hj;exact of_decide_eq_true hj.1) fun v' G lG fG=>?_
 refine k v' G _ (AHeap.le_trans l12 lG) (fG.less l12.1) ?_ fun z hz=>?_
 ·rw [cycN_lens (by omega)]
  exact lensTo_congr (fun j hj=>by show X.testBit j=_;rw [hXb];simp [hj]) _ (Nat.le_refl _)
 ·unfold cycN at hz
  obtain ⟨y,_,rfl⟩:=List.mem_map.1 hz
  exact compN_lt (by omega)
theorem odd_ok {n:Int} (h:Edges H v es) (hg:IsG n es) (hS:IsS l es.length) (k:∀ G,H.le G→K (.int .i64 (oddN es l:Nat)) G):AC Tryz.prog T0 135 [.agg ⟨[.int .i64 n,v]⟩,.int .u64 (setN l:Nat)] H K:=by
 apply F135.ac
 unfold F135.B9
 refine newK_f (all_iv (edges_one' h)) fun H1 l1 _ o1=>?_
 unfold F135.B8 F135.B7
 refine ldI_own o1 rfl (ld1_own o1 rfl (left_ok (h.le l1) hg hS fun w H2 Z l2 f2 hZ hz64=>?_))
 have h30:es.length≤30:=by have:=hg.ed.len;have:=hg.ed.hi;omega
 have hZl:Z.length≤30:=by
  have:=congrArg List.length hZ
  rw [List.length_map] at this
  have:=lensTo_length es (leftP l) es.length
  omega
 have l12:=AHeap.le_trans l1 l2
 refine f2.sl.len (by decide) (n:=Z.length) (by simp) ?_
 unfold F135.L2
 refine ⟨fun x5 x10 x11 x12 G=>w=x10∧(Z.length:Int)=x11∧H2=G∧∃ i:Nat,x12=i∧i≤Z.length∧x5=(oddSum ((Z.take i).map fun z=>popc z 64):Nat),fun _ _ _ x12 _=>Z.length-x12.toNat,⟨rfl,rfl,rfl,0,rfl,by omega,by simp [oddSum]⟩,?_⟩
 rintro x5 x10 x11 x12 G ⟨rfl,rfl,rfl,i,rfl,hi,rfl⟩
 have ho:=oddSum_le ((Z.take i).map fun z=>popc z 64)
 rw [List.length_map,List.length_take] at ho
 unfold F135.B6
 refine pif_cases (fun hb=>?_) fun hb=>?_
 ·have hil:i<Z.length:=by have:=of_decide_eq_true hb;omega
  unfold F135.B5
  refine Sl_rdI f2.sl (by omega) (by simp;omega) (by rw [Int.toNat_natCast];exact LU_get hil) ?_
  rw [getD_of hil]
  unfold F135.B4
  refine size_ok (hz64 _ (List.getElem_mem hil)) (asI_mk ?_)
  unfold F135.B3
  rw [tmod2,wrap_id (by omega) (by omega),wrap_id (by omega) (by omega)]
  refine ⟨⟨rfl,rfl,rfl,i+1,by omega,by omega,?_⟩,by show Z.length-((i:Int)+1).toNat<Z.length-(i:Int).toNat;omega⟩
  rw [List.take_succ_eq_append_getElem hil,List.map_append,List.map_singleton,oddSum_snoc];omega
 ·have hil:i=Z.length:=by have:=of_decide_eq_false hb;omega
  subst hil
  unfold F135.B1
  have k:=k _ l12
  unfold oddN at k
  rw [← hZ] at k
  rw [List.take_length];exact k
noncomputable def bestS (es:List (Int × Int)) (b:List Int × Int) (l:List Int):List Int × Int:=if b.2<0∨(oddN es l:Int)<b.2 then (l,(oddN es l:Int)) else b
noncomputable def bestF (es:List (Int × Int)) (L:List (List Int)):List Int × Int:=L.foldl (bestS es) ([],-1)
theorem bestF_snoc (L:List (List Int)) (l:List Int):bestF es (L++[l])=bestS es (bestF es L) l:=by unfold bestF;rw [List.foldl_append];rfl
theorem bestF_rng (L:List (List Int)):∀ b:List Int × Int,-1≤b.2→b.2≤es.length→-1≤(L.foldl (bestS es) b).2∧(L.foldl (bestS es) b).2≤es.length:=by
 induction L with
 | nil=>exact fun b h1 h2=>⟨h1,h2⟩
 | cons l L ih=>
  intro b h1 h2
  rw [List.foldl_cons]
  have:=oddN_le es l
  refine ih _ ?_ ?_
  ·unfold bestS
   split
   ·show (-1:Int)≤(oddN es l:Int);omega
   ·exact h1
  ·unfold bestS
   split
   ·show (oddN es l:Int)≤es.length;omega
   ·exact h2
theorem bestF_rng0 (L:List (List Int)):-1≤(bestF es L).2∧(bestF es L).2≤es.length:=bestF_rng L _ (by decide) (by show (-1:Int)≤es.length;omega)
theorem bestF_none {L:List (List Int)}:(bestF es L).2=-1↔L=[]:=by
 have nn:∀ (L:List (List Int)) (b:List Int × Int),0≤b.2→0≤(L.foldl (bestS es) b).2:=by
  intro L
  induction L with
  | nil=>exact fun b h=>h
  | cons l L ih=>
   intro b h
   rw [List.foldl_cons]
   refine ih _ ?_
   unfold bestS
   split
   ·simp
   ·exact h
 constructor
 ·intro h
  cases L with
  | nil=>rfl
  | cons l L=>
   unfold bestF at h
   rw [List.foldl_cons] at h
   have:=nn L (bestS es ([],-1) l) (by unfold bestS;rw [if_pos (.inl (by decide))];simp)
   omega
 ·rintro rfl;rfl
noncomputable def isZero (es:List (Int × Int)) (d:List (List Int)):Bool:=@decide ((bestF es d).2=0) (Classical.propDecidable _)
theorem best_zero (L:List (List Int)):∀ b:List Int × Int,b.2=0→L.foldl (bestS es) b=b:=by
 induction L with
 | nil=>exact fun b _=>rfl
 | cons l L ih=>
  intro b h
  rw [List.foldl_cons]
  have:bestS es b l=b:=by unfold bestS;rw [if_neg (by omega)]
  rw [this];exact ih b h
theorem best_up:∀ (L d:List (List Int)),bestF es (d++upToD (isZero es) d L)=bestF es (d++L)
 | [],d=>rfl
 | x::L,d=>by
  rw [upToD]
  by_cases h:isZero es (d++[x])=true
  ·rw [if_pos h]
   have h0:(bestF es (d++[x])).2=0:=by unfold isZero at h;simpa using h
   have:bestF es (d++x::L)=bestF es (d++[x]):=by
    rw [show d++x::L=(d++[x])++L by simp]
    unfold bestF at h0 ⊢
    rw [List.foldl_append]
    exact best_zero L _ h0
   rw [this]
  ·rw [if_neg h]
   have:=best_up L (d++[x])
   rw [List.append_assoc,List.append_assoc] at this
   exact this
theorem mats_row2 {n:Int} (hg:IsG n es):∀ l∈mats n es,IsS l es.length∧l.length≤30∧OneAt n es l:=fun l hl=>⟨(mats_row hg l hl).1,(mats_row hg l hl).2,mats_one hg hl⟩
theorem RowsF.rowA (h:RowsF A B H v ls) {i:Nat} (hi:i<ls.length) {K:Value→Prop} (k:∀ w,Fresh 0 H w 2 1 (LI (ls.getD i []))→(∀ b,bk w=some b→A b)→K w):idxK v i 1 (fun b o=>ld1 H b o K):=by
 obtain ⟨vs,h1,h2,h3,h4⟩:=h
 obtain ⟨w,g1,g2,g3⟩:=h4 i hi
 exact Sl_rd h1.sl (by omega) (by omega) (by rw [Int.toNat_natCast];exact g1) (k w g2 fun b hb=>(g3 b hb).1)
theorem best_ok {n:Int} (hT:Tab H) (h:Edges H v es) (hg:IsG n es)
 (k:∀ G,H.le G→K (.tuple ⟨[.int .u64 (setN (bestF es (mats n es)).1:Nat),.int .i64 (bestF es (mats n es)).2,.bool (decide (mats n es≠[]))]⟩) G):AC Tryz.prog T0 71 [.agg ⟨[.int .i64 n,v]⟩] H K:=by
 have h30:es.length≤30:=by have:=hg.ed.len;have:=hg.ed.hi;omega
 have hrow:=mats_row2 hg
 apply F71.ac
 unfold F71.B5
 refine newK_f (all_iv (edges_one' h)) fun H1 l1 n1 o1=>?_
 unfold F71.B4
 refine newK_f rfl fun H2 l2 n2 o2=>?_
 unfold F71.B3
 refine newK_f rfl fun H3 l3 n3 o3=>stK_f o3 (by simp) (by simp [Value.oneCell']) rfl fun H4 b4 o4=>?_
 obtain ⟨a,ha⟩:∃ a,a=H1.length:=⟨_,rfl⟩
 obtain ⟨b,hb⟩:∃ b,b=H2.length:=⟨_,rfl⟩
 rw [← ha] at o2;rw [← hb] at o4;rw [← ha,← hb]
 have hab:a+1=b:=by omega
 have o24:Own H4 a 83 [.int .u64 0]:=b4.own (o2.le l3) (by omega)
 have o4:Own H4 b 2 [.int .i64 (-1)]:=by simpa using o4
 have l24:H2.le H4:=b4.le l3 (Nat.le_refl _)
 have l14:=AHeap.le_trans l2 l24
 have l04:=AHeap.le_trans l1 l14
 have o14:=o1.le l14
 have hb1:=l1.1
 have hl4:H4.length=H2.length+1:=by rw [b4.len];omega
 unfold F71.B2
 refine ldI_own o14 rfl (ld1_own o14 rfl (matchings_ok hg (H0:=H) (Pv0:=fun x=>x=a∨x=b) (q:=isZero es)
  (J:=fun done Pv G=>(∀ x,Pv x↔(x=a∨x=b))∧b<G.length∧(∀ l∈done,l∈mats n es)∧Own G a 83 [.int .u64 (setN (bestF es done).1:Nat)]∧Own G b 2 [.int .i64 (bestF es done).2])
  h l04 (fun x hx=>by omega) hT rfl ⟨fun x=>Iff.rfl,by omega,(fun l hl=>by cases hl),o24,o4⟩ ?_ ?_ ?_ ?_))
 ·rintro done Pv G G2 ⟨h1,h2,h3,h4,h5⟩ hle
  exact ⟨h1,by have:=hle.1;omega,h3,h4.le hle,h5.le hle⟩
 ·rintro done Pv G x ⟨h1,h2,h3,h4,h5⟩ hx
  have:=(h1 x).1 hx;omega
 ·rintro done Pv l G ⟨h1,h2,h3,h4,h5⟩ hF hlm _ K hK
  obtain ⟨q1,q2,q3⟩:=hrow l hlm
  obtain ⟨h0G,_⟩:=hF.base l04 (fun x hx=>by omega)
  have oG:Own G H.length _ [.int .i64 n,v]:=hF.old _ _ (by omega) o14
  have hmem:∀ l'∈done++[l],l'∈mats n es:=fun l' hl'=>by
   rcases List.mem_append.1 hl' with h|h
   ·exact h3 l' h
   ·rw [List.mem_singleton] at h;rw [h];exact hlm
  refine callV_mk ?_
  apply F134.ac
  unfold F134.B5 F134.B4
  refine asP_mk (ldI_own oG rfl (ld1_own oG rfl (odd_ok (h.le h0G) hg q1 fun G2 lG2=>asI_mk ?_)))
  have h4':=h4.le lG2
  have h5':=h5.le lG2
  have hr:=bestF_rng0 (es:=es) done
  have hsn:=bestF_snoc (es:=es) done l
  have last:∀ G3,(∀ x o,¬ Pv x→G2[x]?=some (some o)→G3[x]?=some (some o))→G3.length=G2.length→Own G3 a 83 [.int .u64 (setN (bestF es (done++[l])).1:Nat)]→Own G3 b 2 [.int .i64 (bestF es (done++[l])).2]→F134.B1 K (.pointer (some ⟨b,0,none⟩)) G3:=by
   intro G3 hold hlen3 oa ob
   unfold F134.B1
   refine asP_mk (ldI_own ob rfl ?_)
   have e:((bestF es (done++[l])).2==0)=isZero es (done++[l]):=by
    rw [Bool.eq_iff_iff,beq_iff_eq];unfold isZero;simp
   rw [e]
   exact hK G3 Pv ⟨h1,by rw [hlen3];have:=lG2.1;omega,hmem,oa,ob⟩ ⟨by rw [hlen3];exact lG2.1,fun x hx=>.inl hx,fun x o hx ho=>hold x o hx (lG2.2 _ _ ho)⟩
  have upd:((bestF es done).2<0∨(oddN es l:Int)<(bestF es done).2)→F134.B2 K (setN l:Nat) (.pointer (some ⟨b,0,none⟩)) (.pointer (some ⟨a,0,none⟩)) (oddN es l:Nat) G2:=by
   intro hc
   have e:bestF es (done++[l])=(l,(oddN es l:Int)):=by rw [hsn];unfold bestS;rw [if_pos hc]
   unfold F134.B2
   refine asP_mk (stK_f h4' (by simp) (by simp [Value.oneCell']) rfl fun G3 b3 o3'=>asP_mk (stK_f (b3.own h5' (by omega)) (by simp) (by simp [Value.oneCell']) rfl fun G4 b4' o4'=>?_))
   refine last G4 (fun x o hx ho=>?_) (by rw [b4'.len,b3.len]) ?_ ?_
   ·have hn:¬ (x=a∨x=b):=fun h=>hx ((h1 x).2 h)
    rw [b4'.same x (by omega),b3.same x (by omega)];exact ho
   ·rw [e];exact b4'.own (by simpa using o3') (by omega)
   ·rw [e];simpa using o4'
  unfold F134.B3
  refine asP_mk (ldI_own h5' rfl (pif_cases (fun hb=>?_) fun hb=>asP_mk (ldI_own h5' rfl (pif_cases (fun hb2=>?_) fun hb2=>?_))))
  ·exact upd (.inl (by have:=beq_iff_eq.1 hb;omega))
  ·exact upd (.inr (of_decide_eq_true hb2))
  ·have h1':(bestF es done).2≠-1:=fun e=>by rw [e] at hb;simp at hb
   have h2':=of_decide_eq_false hb2
   have e:bestF es (done++[l])=bestF es done:=by rw [hsn];unfold bestS;rw [if_neg (by omega)]
   refine last G2 (fun x o _ ho=>ho) rfl ?_ ?_
   ·rw [e];exact h4'
   ·rw [e];exact h5'
 ·rintro G Pv ⟨h1,h2,h3,h4,h5⟩ hF
  have e:bestF es (upToD (isZero es) [] (mats n es))=bestF es (mats n es):=by
   have:=best_up (es:=es) (mats n es) []
   simpa using this
  rw [e] at h4 h5
  have hbG:=(hF.base l04 (fun x hx=>by omega)).1
  refine asB_mk ?_
  unfold F71.B1
  refine ldI_own h4 rfl (ldI_own h5 rfl (ldI_own h5 rfl ?_))
  have e2:((bestF es (mats n es)).2 != -1)=decide (mats n es≠[]):=by
   rw [Bool.eq_iff_iff,bne_iff_ne,decide_eq_true_iff]
   exact not_congr bestF_none
  rw [e2]
  exact k G hbG
noncomputable def bmCode (n:Int) (es:List (Int × Int)):Int:=if IsG n es then (if mats n es=[] then 4 else 0) else 1
noncomputable def bmList (n:Int) (es:List (Int × Int)):List Int:=if bmCode n es=0 then (bestF es (mats n es)).1 else []
noncomputable def odVal (n:Int) (es:List (Int × Int)):Int:=if bmCode n es=0 then (bestF es (mats n es)).2 else 0
end Go.Proofs
namespace Go.Proofs
open Go.Abs

variable {H G:AHeap} {v u f:Value} {l m c D:List Int} {es fs:List (Int × Int)} {K:Value→AHeap→Prop} {A A':Nat→Prop} {B:Nat} {ls ms:List (List Int)}

theorem cycW_lens (p:Nat→Bool):∀ k,(cycW es p k).map List.length=lensTo es p k
 | 0=>rfl
 | k+1=>by
  rw [cycW,lensTo,List.map_append,cycW_lens p k]
  split
  ·rw [List.map_singleton,wkL_length]
  ·rfl
end Go.Proofs
namespace Go.Proofs
open Go.Abs

variable {H G:AHeap} {v u f:Value} {l m c D:List Int} {es fs:List (Int × Int)} {K:Value→AHeap→Prop} {p:Nat→Bool} {e:Nat}

end Go.Proofs
namespace Go.Proofs
open Go.Abs

variable {H G:AHeap} {v u f:Value} {l m c D:List Int} {es fs:List (Int × Int)} {K:Value→AHeap→Prop} {A A':Nat→Prop} {B:Nat} {ls ms cs:List (List Int)}

noncomputable def ldr (es:List (Int × Int)) (p:Nat→Bool) (k:Nat):List Nat:=(List.range k).filter fun i=>p i&&cLeadB es p i
theorem ldr_succ (p:Nat→Bool) (k:Nat):ldr es p (k+1)=ldr es p k++if p k=true∧cLeadB es p k=true then [k] else []:=by
 unfold ldr
 rw [List.range_succ,List.filter_append]
 congr 1
 cases h1:p k <;> cases h2:cLeadB es p k <;> simp [h1,h2]
theorem cycW_ldr (p:Nat→Bool):∀ k,cycW es p k=(ldr es p k).map fun e=>wkL es p e (compL es p e).length
 | 0=>rfl
 | k+1=>by
  rw [cycW,ldr_succ,List.map_append,cycW_ldr p k]
  split <;> simp
theorem mem_ldr {p:Nat→Bool} {k e:Nat}:e∈ldr es p k↔e<k∧p e=true∧cLeadB es p e=true:=by
 unfold ldr;rw [List.mem_filter,List.mem_range,Bool.and_eq_true]
def pnt (O:List Int) (c:List Int):Nat→List Int
 | 0=>O
 | t+1=>(pnt O c t).set (c.getD t 0).toNat (1+((t%2:Nat):Int))
def pntAll (O:List Int) (cs:List (List Int)):Nat→List Int
 | 0=>O
 | i+1=>pnt (pntAll O cs i) (cs.getD i []) (cs.getD i []).length
theorem pnt_length (O c:List Int):∀ t,(pnt O c t).length=O.length
 | 0=>rfl
 | t+1=>by rw [pnt,List.length_set,pnt_length O c t]
theorem pntAll_length (O:List Int) (cs:List (List Int)):∀ i,(pntAll O cs i).length=O.length
 | 0=>rfl
 | i+1=>by rw [pntAll,pnt_length,pntAll_length O cs i]
end Go.Proofs
namespace Go.Proofs
open Go.Abs

variable {es:List (Int × Int)} {p:Nat→Bool} {l c O:List Int} {cs:List (List Int)} {n:Int} {e:Nat}

theorem wk_inj (hg:IsG n es) (h2:Deg2 n es p) (he:e<es.length) (hpe:p e=true) {s t:Nat} (hs:s<(compL es p e).length) (ht:t<(compL es p e).length) (h:(wk es p e s).1=(wk es p e t).1):s=t:=by
 obtain ⟨a0,w,hW⟩:=wk_walk hg h2 he hpe _ (Nat.le_refl _)
 have hn:=hW.nd
 unfold wkL List.Nodup at hn
 rw [List.pairwise_map,List.pairwise_iff_getElem] at hn
 rcases Nat.lt_trichotomy s t with h'|h'|h'
 ·refine absurd ?_ (hn s t (by simpa using hs) (by simpa using ht) h')
  rw [List.getElem_range,List.getElem_range,h]
 ·exact h'
 ·refine absurd ?_ (hn t s (by simpa using ht) (by simpa using hs) h')
  rw [List.getElem_range,List.getElem_range,h]
theorem wk_adj (hg:IsG n es) (h2:Deg2 n es p) (he:e<es.length) (hpe:p e=true) {s t x:Nat} (hst:s<t) (ht:t<(compL es p e).length) (h1:on (es.getD (wk es p e s).1 (0,0)) x=true) (h3:on (es.getD (wk es p e t).1 (0,0)) x=true):t=s+1∨(s=0∧t+1=(compL es p e).length):=by
 have hWs:=wk_walk2 hg h2 he hpe s (by omega)
 have hWt:=wk_walk2 hg h2 he hpe t (by omega)
 have hne:(wk es p e t).1≠(wk es p e s).1:=fun h=>by have:=wk_inj hg h2 he hpe ht (by omega) h;omega
 have dg:∀ {a v:Nat},a≤(compL es p e).length→on (es.getD (wk es p e a).1 (0,0)) v=true→(v:Int)<n→degB es p v=2:=fun ha ho hv=>by
  have hW:=wk_walk2 hg h2 he hpe _ ha
  exact h2 _ hv (degB_pos hW.lt hW.pn ho)
 rcases (on_iff2 hWs.onw hWs.onv hWs.ne).1 h1 with hx|hx
 ·rcases (on_iff2 hWt.onw hWt.onv hWt.ne).1 h3 with hy|hy
  ·obtain ⟨t',rfl⟩:∃ t',t=t'+1:=⟨t-1,by omega⟩
   have hW':=wk_walk2 hg h2 he hpe t' (by omega)
   have hxe:x=(wk es p e t').2:=hy
   have hvn:=hW'.vn
   have d2:=dg (a:=t') (by omega) hW'.onv hvn
   have hoj:on (es.getD (wk es p e (t'+1)).1 (0,0)) ((wk es p e t').2:Nat)=true:=by rw [← hxe];exact h3
   have a1:=nx_eq d2 hWt.lt hWt.pn hoj hWs.lt hWs.pn (fun h=>hne h.symm) (by rw [← hxe];exact h1)
   have a2:=nx_eq d2 hWt.lt hWt.pn hoj hW'.lt hW'.pn (fun h=>by have:=wk_inj hg h2 he hpe (s:=t') (by omega) ht h;omega) hW'.onv
   have:=wk_inj hg h2 he hpe (s:=s) (t:=t') (by omega) (by omega) (a1.symm.trans a2)
   left;omega
  ·have a1:=nx_eq (dg (a:=t) (by omega) hWt.onv hWt.vn) hWt.lt hWt.pn hWt.onv hWs.lt hWs.pn (fun h=>hne h.symm) (by rw [← hy];exact h1)
   have a2:(wk es p e (t+1)).1=(wk es p e s).1:=a1
   rcases Nat.lt_or_ge (t+1) (compL es p e).length with hl|hl
   ·have:=wk_inj hg h2 he hpe hl (by omega) a2
    omega
   ·have hT:t+1=(compL es p e).length:=by omega
    have hb:=wk_back hg h2 he hpe
    rw [← hT,a2] at hb
    have:(wk es p e s).1=(wk es p e 0).1:=hb
    have:=wk_inj hg h2 he hpe (s:=s) (t:=0) (by omega) (by omega) this
    exact .inr ⟨this,hT⟩
 ·have a1:=nx_eq (dg (a:=s) (by omega) hWs.onv hWs.vn) hWs.lt hWs.pn hWs.onv hWt.lt hWt.pn hne (by rw [← hx];exact h3)
  have a2:(wk es p e (s+1)).1=(wk es p e t).1:=a1
  have:=wk_inj hg h2 he hpe (by omega) ht a2
  left;omega
theorem pnt_out {y:Nat}:∀ k,(∀ t,t<k→(c.getD t 0).toNat≠y)→(pnt O c k).getD y 0=O.getD y 0
 | 0,_=>rfl
 | k+1,h=>by
  rw [pnt,getD_set_ne (h k (by omega))]
  exact pnt_out k fun t ht=>h t (by omega)
theorem pnt_in {y t:Nat} (hy:y<O.length) (ht:(c.getD t 0).toNat=y) (hn:∀ s,s<c.length→s≠t→(c.getD s 0).toNat≠y):∀ k,t<k→k≤c.length→(pnt O c k).getD y 0=1+((t%2:Nat):Int)
 | 0,h,_=>absurd h (by omega)
 | k+1,h,hk=>by
  rw [pnt]
  by_cases hkt:k=t
  ·rw [hkt,ht,getD_set_self (by rw [pnt_length];exact hy)]
  ·rw [getD_set_ne (hn k (by omega) hkt)]
   exact pnt_in hy ht hn k (by omega) (by omega)
theorem pntAll_out {y:Nat}:∀ i,(∀ j,j<i→∀ t,t<(cs.getD j []).length→((cs.getD j []).getD t 0).toNat≠y)→(pntAll O cs i).getD y 0=O.getD y 0
 | 0,_=>rfl
 | i+1,h=>by
  rw [pntAll,pnt_out _ (h i (by omega))]
  exact pntAll_out i fun j hj=>h j (by omega)
theorem pntAll_in {y j t:Nat} (hy:y<O.length) (hlt:t<(cs.getD j []).length) (ht:((cs.getD j []).getD t 0).toNat=y) (hn:∀ s,s<(cs.getD j []).length→s≠t→((cs.getD j []).getD s 0).toNat≠y):∀ i,j<i→(∀ j',j'<i→j'≠j→∀ t,t<(cs.getD j' []).length→((cs.getD j' []).getD t 0).toNat≠y)→(pntAll O cs i).getD y 0=1+((t%2:Nat):Int)
 | 0,h,_=>absurd h (by omega)
 | i+1,h,ho=>by
  rw [pntAll]
  by_cases hij:i=j
  ·subst hij
   exact pnt_in (by rw [pntAll_length];exact hy) ht hn _ hlt (Nat.le_refl _)
  ·rw [pnt_out _ (ho i (by omega) hij)]
   exact pntAll_in hy hlt ht hn i (by omega) fun j' hj'=>ho j' (by omega)
theorem wkL_get {t:Nat} {T:Nat} (h:t<T):(wkL es p e T).getD t 0=((wk es p e t).1:Int):=by
 rw [getD_of (by rw [wkL_length];exact h)]
 unfold wkL
 rw [List.getElem_map,List.getElem_range]
theorem ldr_nodup (k:Nat):(ldr es p k).Nodup:=by
 unfold ldr;exact List.Pairwise.filter _ List.nodup_range
theorem lead_uniq {a b:Nat} (ha:a<es.length∧p a=true∧cLeadB es p a=true) (hb:b<es.length∧p b=true∧cLeadB es p b=true) (h:Rch (eAdj es p) a b):a=b:=by
 rcases Nat.lt_trichotomy a b with h'|h'|h'
 ·exact absurd h (cLeadB_iff.1 hb.2.2 a h' ha.2.1)
 ·exact h'
 ·exact absurd (eRch_symm h ⟨ha.1,ha.2.1⟩) (cLeadB_iff.1 ha.2.2 b h' hb.2.1)
theorem col_cyc (hg:IsG n es) (h2:Deg2 n es p) (hO:O.length=es.length) (he:e<es.length∧p e=true∧cLeadB es p e=true) {t:Nat} (ht:t<(compL es p e).length):(pntAll O (cycW es p es.length) (cycW es p es.length).length).getD (wk es p e t).1 0=1+((t%2:Nat):Int):=by
 have hcs:=cycW_ldr (es:=es) (p:=p) es.length
 have hl:(cycW es p es.length).length=(ldr es p es.length).length:=by rw [hcs,List.length_map]
 have hget:∀ j (hj:j<(ldr es p es.length).length),(cycW es p es.length).getD j []=wkL es p (ldr es p es.length)[j] (compL es p (ldr es p es.length)[j]).length:=fun j hj=>by
  rw [getD_of (by omega)]
  simp only [hcs,List.getElem_map]
 obtain ⟨j,hj,hje⟩:=List.getElem_of_mem (mem_ldr.2 he)
 have hW:=wk_walk2 hg h2 he.1 he.2.1 t (by omega)
 have hgj:=hget j hj
 rw [hje] at hgj
 refine pntAll_in (j:=j) (by rw [hO];exact hW.lt) (by rw [hgj,wkL_length];exact ht) (by rw [hgj,wkL_get ht,Int.toNat_natCast]) (fun s hs hst=>?_) _ (by omega) fun j' hj' hne t' ht'=>?_
 ·rw [hgj,wkL_length] at hs
  rw [hgj,wkL_get hs,Int.toNat_natCast]
  exact fun h=>hst (wk_inj hg h2 he.1 he.2.1 hs ht h)
 ·have hj2:j'<(ldr es p es.length).length:=by omega
  have hg':=hget j' hj2
  have hm':=mem_ldr.1 (List.getElem_mem hj2)
  rw [hg',wkL_length] at ht'
  rw [hg',wkL_get ht',Int.toNat_natCast]
  intro h
  have hW':=wk_walk2 hg h2 hm'.1 hm'.2.1 t' (by omega)
  have r1:=hW'.rch
  rw [h] at r1
  have:(ldr es p es.length)[j']=e:=lead_uniq hm' he (r1.trans (eRch_symm hW.rch ⟨he.1,he.2.1⟩))
  rw [← hje] at this
  exact hne ((List.getElem_inj (ldr_nodup es.length)).1 this)
theorem col_mat (hg:IsG n es) (h2:Deg2 n es p) {y:Nat} (hp:p y=false):(pntAll O (cycW es p es.length) (cycW es p es.length).length).getD y 0=O.getD y 0:=by
 have hcs:=cycW_ldr (es:=es) (p:=p) es.length
 refine pntAll_out _ fun j hj t ht=>?_
 have hj2:j<(ldr es p es.length).length:=by rw [hcs,List.length_map] at hj;exact hj
 have hgj:(cycW es p es.length).getD j []=wkL es p (ldr es p es.length)[j] (compL es p (ldr es p es.length)[j]).length:=by
  rw [getD_of hj]
  simp only [hcs,List.getElem_map]
 have hm':=mem_ldr.1 (List.getElem_mem hj2)
 rw [hgj,wkL_length] at ht
 rw [hgj,wkL_get ht,Int.toNat_natCast]
 intro h
 have hW':=wk_walk2 hg h2 hm'.1 hm'.2.1 t (by omega)
 have:=hW'.pn
 rw [h,hp] at this;cases this
theorem oddSum_zero:∀ {L:List Nat},oddSum L=0→∀ x∈L,x%2=0
 | [],_,x,hx=>by cases hx
 | a::L,h,x,hx=>by
  unfold oddSum at h
  rw [List.map_cons,List.sum_cons] at h
  rcases List.mem_cons.1 hx with rfl|hx
  ·omega
  ·exact oddSum_zero (L:=L) (by unfold oddSum;omega) x hx
theorem zero_oddSum:∀ {L:List Nat},(∀ x∈L,x%2=0)→oddSum L=0
 | [],_=>rfl
 | a::L,h=>by
  unfold oddSum
  rw [List.map_cons,List.sum_cons]
  have h1:=h a (by simp)
  have h2:=zero_oddSum (L:=L) fun x hx=>h x (by simp [hx])
  unfold oddSum at h2
  omega
theorem mem_lens {x:Nat}:x∈lensTo es p es.length↔∃ e,(e<es.length∧p e=true∧cLeadB es p e=true)∧x=(compL es p e).length:=by
 rw [← cycW_lens,cycW_ldr,List.map_map,List.mem_map]
 constructor
 ·rintro ⟨e,he,rfl⟩
  exact ⟨e,mem_ldr.1 he,by simp [wkL_length]⟩
 ·rintro ⟨e,he,rfl⟩
  exact ⟨e,mem_ldr.2 he,by simp [wkL_length]⟩
theorem lead_get {y:Nat} (hy:y<es.length) (hp:p y=true):∃ e,(e<es.length∧p e=true∧cLeadB es p e=true)∧Rch (eAdj es p) e y:=by
 by_cases h:cLead es p y
 ·exact ⟨y,⟨hy,hp,cLeadB_iff.2 h⟩,.refl⟩
 ·obtain ⟨j,h1,h2,h3,h4⟩:=lead_of hp h
  exact ⟨j,⟨by omega,h2,cLeadB_iff.2 h3⟩,h4⟩
theorem wk_time (hg:IsG n es) (h2:Deg2 n es p) (he:e<es.length) (hpe:p e=true) {y:Nat} (h:Rch (eAdj es p) e y):∃ t,t<(compL es p e).length∧(wk es p e t).1=y:=by
 have hm:=(wkL_all hg h2 he hpe y).2 h
 unfold wkL at hm
 obtain ⟨t,ht,h⟩:=List.mem_map.1 hm
 rw [List.mem_range] at ht
 exact ⟨t,ht,by omega⟩
theorem one_two (ho:OneAt n es l) {i j x:Nat} (hij:i≠j) (hi:(i:Int)∈l) (hj:(j:Int)∈l) (h1:on (es.getD i (0,0)) x=true) (h2:on (es.getD j (0,0)) x=true) (hx:(x:Int)<n):False:=by
 have:=nodup_sub (l:=[(i:Int),(j:Int)]) (m:=l.filter fun i=>on (es.getD i.toNat (0,0)) x) (by simp;omega) fun y hy=>by
  simp only [List.mem_cons,List.not_mem_nil,or_false] at hy
  rcases hy with rfl|rfl
  ·exact List.mem_filter.2 ⟨hi,by rw [Int.toNat_natCast];exact h1⟩
  ·exact List.mem_filter.2 ⟨hj,by rw [Int.toNat_natCast];exact h2⟩
 have h:=ho x hx
 unfold degC at h
 rw [h] at this
 simp at this
theorem share_nat (hg:IsG n es) {i j:Nat} (hi:i<es.length) (h:share (es.getD i (0,0)) (es.getD j (0,0))):∃ x:Nat,(x:Int)<n∧on (es.getD i (0,0)) x=true∧on (es.getD j (0,0)) x=true:=by
 obtain ⟨v,h1,h2⟩:=h
 obtain ⟨a,b,e1,e2,e3⟩:=edge_ends hg hi
 have hv:0≤v∧v<n:=by
  rw [e1] at h1
  unfold on at h1
  simp only [Bool.or_eq_true,beq_iff_eq] at h1
  omega
 obtain ⟨x,rfl⟩:∃ x:Nat,v=x:=⟨v.toNat,by omega⟩
 exact ⟨x,hv.2,h1,h2⟩
theorem paint_isC (hg:IsG n es) (hs:IsS l es.length) (ho:OneAt n es l) (h0:oddN es l=0):IsC es (pntAll (List.replicate es.length 0) (cycW es (leftP l) es.length) (cycW es (leftP l) es.length).length)∧∀ x∈l,(pntAll (List.replicate es.length 0) (cycW es (leftP l) es.length) (cycW es (leftP l) es.length).length).getD x.toNat 0=0:=by
 have h2:Deg2 n es (leftP l):=fun x hx _=>left_deg hg hs ho hx
 have ev:=oddSum_zero (show oddSum (lensTo es (leftP l) es.length)=0 from h0)
 obtain ⟨C,hC⟩:∃ C,C=pntAll (List.replicate es.length 0) (cycW es (leftP l) es.length) (cycW es (leftP l) es.length).length:=⟨_,rfl⟩
 rw [← hC]
 have hCl:C.length=es.length:=by rw [hC,pntAll_length,List.length_replicate]
 have cyc:∀ {e t:Nat},(e<es.length∧leftP l e=true∧cLeadB es (leftP l) e=true)→t<(compL es (leftP l) e).length→C.getD (wk es (leftP l) e t).1 0=1+((t%2:Nat):Int):=fun he ht=>by
  rw [hC];exact col_cyc hg h2 (by simp) he ht
 have mat:∀ {y:Nat},leftP l y=false→C.getD y 0=0:=fun {y} hp=>by
  rw [hC,col_mat hg h2 hp]
  by_cases hy:y<es.length <;> simp [List.getD,List.getElem?_replicate,hy]
 have pos:∀ {y:Nat},y<es.length→leftP l y=true→∃ t:Nat,C.getD y 0=1+((t%2:Nat):Int):=fun {y} hy hp=>by
  obtain ⟨e,he,hr⟩:=lead_get hy hp
  obtain ⟨t,ht,rfl⟩:=wk_time hg h2 he.1 he.2.1 hr
  exact ⟨t,cyc he ht⟩
 have inl:∀ {y:Nat},leftP l y=false→(y:Int)∈l:=fun {y} hp=>by
  unfold leftP at hp
  exact (bitB_mem hs y).1 (by simpa using hp)
 refine ⟨⟨hCl,fun x hx=>?_,fun j hj i hij hsh=>?_⟩,fun x hx=>?_⟩
 ·obtain ⟨y,hy,rfl⟩:=List.getElem_of_mem hx
  rw [← getD_of (d:=0) hy]
  cases hp:leftP l y with
  | false=>rw [mat hp];omega
  | true=>obtain ⟨t,ht⟩:=pos (by omega) hp;rw [ht];omega
 ·obtain ⟨x,hx,o1,o2⟩:=share_nat hg (by omega) hsh
  cases hpi:leftP l i with
  | false=>
   rw [mat hpi]
   cases hpj:leftP l j with
   | false=>exact (one_two ho (by omega) (inl hpi) (inl hpj) o1 o2 hx).elim
   | true=>obtain ⟨t,ht⟩:=pos hj hpj;rw [ht];omega
  | true=>
   cases hpj:leftP l j with
   | false=>obtain ⟨t,ht⟩:=pos (show i<es.length by omega) hpi;rw [ht,mat hpj];omega
   | true=>
    obtain ⟨e,he,hr⟩:=lead_get (show i<es.length by omega) hpi
    have hr2:Rch (eAdj es (leftP l)) e j:=.step hr ⟨hj,hpj,hsh⟩
    obtain ⟨s,hs',es1⟩:=wk_time hg h2 he.1 he.2.1 hr
    obtain ⟨t,ht',et1⟩:=wk_time hg h2 he.1 he.2.1 hr2
    have hT:=ev _ (mem_lens.2 ⟨e,he,rfl⟩)
    rw [← es1,← et1,cyc he hs',cyc he ht']
    rw [← es1] at o1
    rw [← et1] at o2
    rcases Nat.lt_trichotomy s t with h|h|h
    ·rcases wk_adj hg h2 he.1 he.2.1 h ht' o1 o2 with h'|h' <;> omega
    ·subst h;omega
    ·rcases wk_adj hg h2 he.1 he.2.1 h hs' o2 o1 with h'|h' <;> omega
 ·have hr:=hs.range x hx
  have:leftP l x.toNat=false:=by
   unfold leftP
   rw [Bool.not_eq_false',bitB_mem hs]
   rw [show ((x.toNat:Nat):Int)=x by omega];exact hx
  exact mat this
end Go.Proofs
namespace Go.Proofs
open Go.Abs

variable {H G:AHeap} {v u f:Value} {l m c D:List Int} {es fs:List (Int × Int)} {K:Value→AHeap→Prop} {A A':Nat→Prop} {B:Nat} {ls ms:List (List Int)}

end Go.Proofs
namespace Go.Proofs
open Go.Abs

variable {H G:AHeap} {v u f:Value} {l m c D:List Int} {es fs:List (Int × Int)} {K:Value→AHeap→Prop} {A A':Nat→Prop} {B:Nat} {ls ms:List (List Int)}

end Go.Proofs
namespace Go.Proofs
open Go.Abs

variable {H G:AHeap} {v u f:Value} {l m c D:List Int} {es fs:List (Int × Int)} {K:Value→AHeap→Prop} {A A':Nat→Prop} {B:Nat} {ls ms:List (List Int)}

end Go.Proofs
namespace Go.Proofs
open Go.Abs

variable {H G:AHeap} {v u f:Value} {l m c D:List Int} {es fs:List (Int × Int)} {K:Value→AHeap→Prop}

theorem implOdd_ok {n:Int} (hT:Tab H) (h:Edges H v es) (hl:es.length≤1048576) (k:∀ G,H.le G→K (.tuple ⟨[.int .i64 (odVal n es),.int .i64 (bmCode n es)]⟩) G):AC Tryz.prog T0 16 [.agg ⟨[.int .i64 n,v]⟩] H K:=by
 apply F16.ac
 unfold F16.B8
 refine newK_f (all_iv (edges_one' h)) fun H1 l1 _ o1=>?_
 unfold F16.B7
 refine ldI_own o1 rfl (ld1_own o1 rfl (graphCode_ok (b:=true) (h.le l1) hl fun H2 l2=>asI_mk ?_))
 have l12:=AHeap.le_trans l1 l2
 have o2:=o1.le l2
 have e:(if IsG n es then (if true=true then 0 else 2) else 1:Int)=grCode n es:=by unfold grCode;simp
 rw [e]
 unfold F16.B6
 refine pif_cases (fun hs=>?_) fun hs=>?_
 ·have hg:¬ IsG n es:=fun h=>by unfold grCode at hs;rw [if_pos h] at hs;simp at hs
  have e0:grCode n es=1:=by unfold grCode;rw [if_neg hg]
  have e:bmCode n es=1:=by unfold bmCode;rw [if_neg hg]
  unfold F16.B5
  have k:=k _ l12
  unfold odVal at k
  rw [e] at k
  rw [e0]
  exact k
 have hg:IsG n es:=by
  unfold grCode at hs
  by_cases h:IsG n es
  ·exact h
  ·rw [if_neg h] at hs;simp at hs
 unfold F16.B4
 refine ldI_own o2 rfl (ld1_own o2 rfl (best_ok (hT.le l12) (h.le l12) hg fun H3 l3=>tup3_mk (asI_mk (asI_mk (asB_mk ?_)))))
 have l13:=AHeap.le_trans l12 l3
 unfold F16.B3
 refine pif_cases (fun hs=>?_) fun hs=>?_
 ·have he:mats n es=[]:=by simpa using hs
  have e:bmCode n es=4:=by unfold bmCode;rw [if_pos hg,if_pos he]
  unfold F16.B2
  have k:=k _ l13
  unfold odVal at k
  rw [e] at k
  exact k
 ·have he:mats n es≠[]:=by simpa using hs
  have e:bmCode n es=0:=by unfold bmCode;rw [if_pos hg,if_neg he]
  unfold F16.B1
  have k:=k _ l13
  unfold odVal at k
  rw [e,if_pos rfl] at k
  exact k
end Go.Proofs
namespace Go.Proofs
open Go.Abs

variable {es:List (Int × Int)} {p:Nat→Bool} {l c O:List Int} {L:List (List Int)} {n:Int} {e:Nat}

theorem bitB_filt {f:Nat→Bool} {m j:Nat}:bitB (filtB f m) j=true↔j<m∧f j=true:=by
 rw [bitB_mem (show IsS (filtB f m) (m:Nat) from asc_isS (filtB_asc f m) fun y hy=>by obtain ⟨q,rfl,h1,_⟩:=mem_filtB.1 hy;omega),mem_filtB]
 constructor
 ·rintro ⟨q,h1,h2,h3⟩
  obtain rfl:j=q:=by omega
  exact ⟨h2,h3⟩
 ·rintro ⟨h2,h3⟩;exact ⟨j,rfl,h2,h3⟩
theorem class_one (hg:IsG n es) (hc:IsC es c) {x:Int} (hx:0≤x∧x≤2):IsS (filtB (fun j=>c.getD j 0==x) es.length) es.length∧OneAt n es (filtB (fun j=>c.getD j 0==x) es.length):=by
 refine ⟨asc_isS (filtB_asc _ _) fun y hy=>by obtain ⟨q,rfl,h1,_⟩:=mem_filtB.1 hy;omega,fun w hw=>?_⟩
 have h:=col_deg hg hc hw hx
 unfold degB at h
 unfold degC
 rw [← filtB_and (fun j=>c.getD j 0==x) (fun j=>on (es.getD j (0,0)) w)]
 rw [← h]
 congr 2
 funext j
 rw [Bool.and_comm]
theorem class_odd (hg:IsG n es) (hc:IsC es c):oddN es (filtB (fun j=>c.getD j 0==0) es.length)=0:=by
 refine zero_oddSum fun x hx=>?_
 obtain ⟨e,⟨he,hp,_⟩,rfl⟩:=mem_lens.1 hx
 have lp:∀ j,j<es.length→(leftP (filtB (fun j=>c.getD j 0==0) es.length) j=true↔c.getD j 0≠0):=fun j hj=>by
  unfold leftP
  rw [Bool.not_eq_true',← Bool.not_eq_true,bitB_filt]
  simp [hj]
 have hce:=(lp e he).1 hp
 have hr:=hc.get e
 have hev:=chain_even hg hc he (b:=3-c.getD e 0) (by omega) (by omega)
 have hadj:eAdj es (leftP (filtB (fun j=>c.getD j 0==0) es.length))=eAdj es (chP c e (3-c.getD e 0)):=by
  refine eAdj_congr fun j hj=>?_
  rw [Bool.eq_iff_iff,lp j hj]
  have hrj:=hc.get j
  unfold chP
  simp only [Bool.or_eq_true,beq_iff_eq]
  omega
 unfold compL
 rw [hadj,cn_filt]
 exact hev
theorem has_iff (hg:IsG n es):(∃ c,IsC es c)↔∃ l,IsS l es.length∧OneAt n es l∧oddN es l=0:=by
 constructor
 ·rintro ⟨c,hc⟩
  obtain ⟨h1,h2⟩:=class_one hg hc (x:=0) (by omega)
  exact ⟨_,h1,h2,class_odd hg hc⟩
 ·rintro ⟨l,h1,h2,h3⟩
  exact ⟨_,(paint_isC hg h1 h2 h3).1⟩
theorem best_fold:∀ (L:List (List Int)) (b:List Int × Int),0≤b.2→(L.foldl (bestS es) b=b∨((L.foldl (bestS es) b).1∈L∧(L.foldl (bestS es) b).2=oddN es (L.foldl (bestS es) b).1))∧(L.foldl (bestS es) b).2≤b.2∧∀ l∈L,(L.foldl (bestS es) b).2≤oddN es l
 | [],b,h=>⟨.inl rfl,Int.le_refl _,fun l hl=>by cases hl⟩
 | a::L,b,h=>by
  rw [List.foldl_cons]
  have hs:bestS es b a=b∧b.2≤oddN es a∨bestS es b a=(a,(oddN es a:Int))∧(oddN es a:Int)<b.2:=by
   unfold bestS
   split
   ·rename_i h';exact .inr ⟨rfl,by omega⟩
   ·rename_i h';exact .inl ⟨rfl,by omega⟩
  rcases hs with ⟨e,hle⟩|⟨e,hlt⟩
  ·rw [e]
   obtain ⟨h1,h2,h3⟩:=best_fold L b h
   refine ⟨h1.elim .inl fun h=>.inr ⟨by simp [h.1],h.2⟩,h2,fun l hl=>?_⟩
   rcases List.mem_cons.1 hl with rfl|hl
   ·omega
   ·exact h3 l hl
  ·rw [e]
   obtain ⟨h1,h2,h3⟩:=best_fold L (a,(oddN es a:Int)) (by show (0:Int)≤(oddN es a:Int);omega)
   have h2:_≤(oddN es a:Int):=h2
   refine ⟨.inr (h1.elim (fun h=>by rw [h];exact ⟨by simp,rfl⟩) fun h=>⟨by simp [h.1],h.2⟩),by omega,fun l hl=>?_⟩
   rcases List.mem_cons.1 hl with rfl|hl
   ·exact h2
   ·exact h3 l hl
theorem bestF_spec (h:L≠[]):(bestF es L).1∈L∧(bestF es L).2=oddN es (bestF es L).1∧∀ l∈L,(bestF es L).2≤oddN es l:=by
 cases L with
 | nil=>exact absurd rfl h
 | cons a L=>
  have e:bestF es (a::L)=L.foldl (bestS es) (a,(oddN es a:Int)):=by
   unfold bestF
   rw [List.foldl_cons]
   congr 1
  rw [e]
  obtain ⟨h1,h2,h3⟩:=best_fold L (a,(oddN es a:Int)) (by show (0:Int)≤(oddN es a:Int);omega)
  have h2:_≤(oddN es a:Int):=h2
  refine ⟨h1.elim (fun h=>by rw [h];simp) fun h=>by simp [h.1],h1.elim (fun h=>by rw [h]) fun h=>h.2,fun l hl=>?_⟩
  rcases List.mem_cons.1 hl with rfl|hl
  ·exact h2
  ·exact h3 l hl
theorem bm_zero (h:bmCode n es=0):IsG n es∧mats n es≠[]:=by
 unfold bmCode at h
 by_cases hg:IsG n es
 ·rw [if_pos hg] at h
  by_cases hm:mats n es=[]
  ·rw [if_pos hm] at h;cases h
  ·exact ⟨hg,hm⟩
 ·rw [if_neg hg] at h;cases h
theorem bm_facts (h:bmCode n es=0):IsM n es (bmList n es)∧IsS (bmList n es) es.length∧OneAt n es (bmList n es)∧odVal n es=oddN es (bmList n es)∧(odVal n es=0↔∃ c,IsC es c):=by
 obtain ⟨hg,hm⟩:=bm_zero h
 have e1:bmList n es=(bestF es (mats n es)).1:=by unfold bmList;rw [if_pos h]
 have e2:odVal n es=(bestF es (mats n es)).2:=by unfold odVal;rw [if_pos h]
 obtain ⟨h1,h2,h3⟩:=bestF_spec (es:=es) hm
 rw [e1,e2]
 obtain ⟨r1,r2,r3⟩:=mats_row2 hg _ h1
 refine ⟨one_isM hg r1 r3,r1,r3,h2,?_⟩
 rw [has_iff hg]
 constructor
 ·intro h0
  exact ⟨_,r1,r3,by omega⟩
 ·rintro ⟨l,g1,g2,g3⟩
  have:=h3 l (mats_all hg g1 g2)
  rw [g3] at this
  omega
-- covers
end Go.Proofs
namespace Go.Proofs
open Go.Abs

variable {H G:AHeap} {v u f:Value} {l m c D:List Int} {es fs:List (Int × Int)} {K:Value→AHeap→Prop}

end Go.Proofs
namespace Go.Proofs
open Go.Abs

variable {H G:AHeap} {v u f:Value} {l m c D:List Int} {es fs:List (Int × Int)} {K:Value→AHeap→Prop}

theorem ptB_cons {i:Int} {E c:List Int}:ptB es (i::E) c=true↔∃ x:Nat,x<3∧clashB es c i.toNat (x:Int)=false∧ptB es E (c.set i.toNat (x:Int))=true:=by
 rw [ptB]
 simp only [Bool.or_eq_true,Bool.and_eq_true,Bool.not_eq_true']
 constructor
 ·rintro ((h|h)|h)
  ·exact ⟨0,by omega,h⟩
  ·exact ⟨1,by omega,h⟩
  ·exact ⟨2,by omega,h⟩
 ·rintro ⟨x,hx,h⟩
  rcases (by omega:x=0∨x=1∨x=2) with rfl|rfl|rfl
  ·exact .inl (.inl h)
  ·exact .inl (.inr h)
  ·exact .inr h
abbrev foundV:Value:=.func (.func 181) ⟨[]⟩ ⟨[]⟩
section
variable {n:Int} {H0:AHeap} {pb cb ub:Nat} {tP:TypeId} {qE:Value}
theorem paint_ok {E:List Int} (hg:IsG n es) (he:Edges H0 v es) (hE:Ints H0 qE E) (hEn:E.Nodup) (hEr:∀ x∈E,0≤x∧x<es.length) (hcb:H0.length≤cb) (hub:H0.length≤ub) (hne:cb≠ub) (hp1:pb≠cb) (hp2:pb≠ub) :
    ∀ (r k:Nat) (c:List Int) (u:List Nat) (G:AHeap) (K:Value→AHeap→Prop),k+r=E.length→H0.le G→Own G pb tP [.int .i64 n,v,qE,.slice (some ⟨cb,0,none⟩) es.length (es.length+1),.slice (some ⟨ub,0,none⟩) n.toNat (n.toNat+1),foundV]→
      Own G cb 2 (LI c)→Own G ub 83 (LU u)→c.length=es.length→UsedOk es n.toNat c u→(∀ j,k≤j→j<E.length→c.getD (E.getD j 0).toNat 0=-1)→(∀ G',G.le G'→K (.bool (ptB es (E.drop k) c)) G')→
      AC Tryz.prog T0 179 [.pointer (some ⟨pb,0,none⟩),.int .i64 (k:Nat)] G K:=by
  have n0:=hg.ed.lo;have n1:=hg.ed.hi
  have h30:es.length≤30:=by have:=hg.ed.len;omega
  have hEl:E.length≤30:=by
    have:=nodup_sub (m:=upto es.length) hEn fun x hx=>by
      have:=hEr x hx
      unfold upto;exact List.mem_map.2 ⟨x.toNat,List.mem_range.2 (by omega),Int.toNat_of_nonneg this.1⟩
    unfold upto at this
    rw [List.length_map,List.length_range] at this;omega
  intro r
  induction r with
  | zero|succ r ih=>
    intro k c u G K hkr h0 oP oc ou hcl hU hfree kk
    have hEG:=hE.le h0
    have oi:=own_ints (c:=es.length+1) oc
    rw [hcl] at oi
    apply F179.ac
    unfold F179.B20 F179.L17
    refine ⟨fun x0 x1 G'=>.pointer (some ⟨pb,0,none⟩)=x0∧((k:Nat):Int)=x1∧G=G',fun _ _ _=>0,⟨rfl,rfl,rfl⟩,?_⟩
    rintro x0 x1 G' ⟨rfl,rfl,rfl⟩
    unfold F179.B19
    refine nilK_mk (asP_mk (ld1_own oP rfl (hEG.len ?_)))
    first
    | (have hk:k=E.length:=by omega
       refine pif_f (by simp;omega) ?_
       unfold F179.B16
       refine nilK_mk (asP_mk (ld1_own oP rfl (hEG.len (pif_t (by simp;omega) ?_))))
       unfold F179.B15
       refine nilK_mk (asP_mk (ld1_own oP rfl (nilK_mk (asP_mk (ld1_own oP rfl (callV_mk ?_))))))
       apply F181.ac
       unfold F181.B2 F181.B1
       refine asB_mk ?_
       have kk:=kk G (AHeap.le_refl _)
       rw [hk,List.drop_length] at kk
       exact kk)
    | (have hk:k<E.length:=by omega
       refine pif_t (by simp;omega) ?_
       have hi:=hEr _ (List.getElem_mem hk)
       obtain ⟨i,hie⟩:∃ i:Nat,E[k]=(i:Int):=⟨(E[k]).toNat,by omega⟩
       have hget:E.getD k 0=(i:Int):=by rw [getD_of hk,hie]
       rw [hie] at hi
       have hil:i<es.length:=by omega
       have hci:c.getD i 0=-1:=by have:=hfree k (Nat.le_refl _) hk;rwa [hget,Int.toNat_natCast] at this
       have hdrop:E.drop k=(i:Int)::E.drop (k+1):=by rw [List.drop_eq_getElem_cons hk,hie]
       refine nilK_mk (asP_mk (ld1_own oP rfl (nilK_mk (asP_mk (ld1_own oP rfl (hEG.rd (by omega) (by omega) ?_))))))
       rw [Int.toNat_natCast,hget]
       refine oi.rd (by omega) (by omega) ?_
       rw [Int.toNat_natCast,hci]
       refine pif_f rfl ?_
       unfold F179.B16
       refine nilK_mk (asP_mk (ld1_own oP rfl (hEG.len (pif_f (by rw [beq_eq_false_iff_ne];omega) ?_))))
       unfold F179.B14
       refine nilK_mk (asP_mk (ld1_own oP rfl (hEG.rd (by omega) (by omega) ?_)))
       rw [Int.toNat_natCast,hget]
       obtain ⟨d1,d2,d3,d4,d5⟩:=hg.ed.ends es[i] (List.getElem_mem hil)
       rw [← getD_of (d:=(0,0)) hil] at d1 d2 d3 d4 d5
       obtain ⟨a,ha⟩:∃ a:Nat,(es.getD i (0,0)).1=a:=⟨(es.getD i (0,0)).1.toNat,by omega⟩
       obtain ⟨b,hb'⟩:∃ b:Nat,(es.getD i (0,0)).2=b:=⟨(es.getD i (0,0)).2.toNat,by omega⟩
       have hab:es.getD i (0,0)=((a:Int),(b:Int)):=by rw [← ha,← hb']
       unfold F179.B13
       obtain ⟨bb,oo,hk',c1,c2⟩:=(he.le h0).idx (show (0:Int)≤i by omega) (by omega)
       simp only [Int.toNat_natCast] at c1 c2
       refine nilK_mk (asP_mk (ld1_own oP rfl (hk' _ (ldI_mk c1 (ldI_mk c2 (newK_f rfl fun G1 l1 n1' o1=>stK_f o1 (by simp) (by simp [Value.oneCell']) rfl fun G2 b2 o2=>?_))))))
       have l2:G.le G2:=b2.le l1 (Nat.le_refl _)
       have o2:Own G2 G.length 28 [.int .i64 (a:Nat),.int .i64 (b:Nat)]:=by rw [ha,hb'] at o2;simpa using o2
       have hul:=hU.1
       unfold F179.B12 F179.L2
       refine ⟨fun x0 x1 x5 x6 x65 G'=>.pointer (some ⟨pb,0,none⟩)=x0∧((k:Nat):Int)=x1∧((i:Nat):Int)=x5∧G.length=x6∧G2.le G'∧∃ t:Nat,x65=t∧t≤3∧∀ x:Nat,x<t→¬ (clashB es c i (x:Int)=false∧ptB es (E.drop (k+1)) (c.set i (x:Int))=true),fun _ _ _ _ x65 _=>3-x65.toNat,⟨rfl,rfl,rfl,rfl,AHeap.le_refl _,0,rfl,by omega,fun x hx=>absurd hx (by omega)⟩,?_⟩
       rintro x0 x1 x5 x6 x65 G3 ⟨rfl,rfl,rfl,rfl,hG3,t,rfl,ht,hno⟩
       have lG3:=AHeap.le_trans l2 hG3
       have h03:=AHeap.le_trans h0 lG3
       have oP3:=oP.le lG3
       have oc3:=oc.le lG3
       have ou3:=ou.le lG3
       have o23:=o2.le hG3
       unfold F179.B11
       refine pif_cases (fun hb=>?_) fun hb=>?_
       · have ht3:t<3:=by have:=of_decide_eq_true hb;omega
         have hua:=(hU.2 a (by omega)).1
         have hub':=(hU.2 b (by omega)).1
         unfold F179.B10 F179.B9
         refine nilK_mk (asP_mk (ld1_own oP3 rfl (ldI_own o23 rfl (own_idx (by omega) (by omega) (ldI_own ou3 (by rw [Int.toNat_natCast];exact LUget2 (by omega)) (nilK_mk (asP_mk (ld1_own oP3 rfl (ldI_own o23 rfl (own_idx (by omega) (by omega) (ldI_own ou3 (by rw [Int.toNat_natCast];exact LUget2 (by omega)) ?_)))))))))))
         rw [bits_or hua hub']
         refine has_ok (or_lt hua hub') (by omega) (asB_mk ?_)
         rw [Int.toNat_natCast,used_clash hU hab (by omega) (by omega)]
         refine pif_cases (fun hb=>?_) fun hb=>?_
         · unfold F179.B3
           rw [wrap_id (by omega) (by omega)]
           refine ⟨⟨rfl,rfl,rfl,rfl,hG3,t+1,by omega,by omega,fun x hx=>?_⟩,by simp;omega⟩
           by_cases e:x=t
           · subst e;rw [hb];simp
           · exact hno x (by omega)
         · have hcl2:=hb
           unfold F179.B8
           refine give_ok (x:=t) hg he h03 hcb hub hne hp1 hp2 oP3 oc3 ou3 hcl hul (fun w hw=>(hU.2 w hw).1) hil (by omega) fun G4 t4 oc4 ou4=>asTup_mk ?_
           rw [ha,hb',Int.toNat_natCast,Int.toNat_natCast] at ou4
           have hU4:=hU.give (x:=t) (by omega) hci hab (by omega) (by omega) (by omega) (by omega)
           have h04:=t4.base h03 hcb hub
           have oP4:Own G4 pb tP _:=t4.old pb _ hp1 hp2 oP3
           unfold F179.B7
           rw [wrap_id (by omega) (by omega),show ((k:Nat):Int)+1=((k+1:Nat):Int) by omega]
           refine ih (k+1) (c.set i (t:Int)) _ G4 _ (by omega) h04 oP4 oc4 ou4 (by simpa using hcl) hU4 (fun j h1 h2=>?_) fun G5 l5=>asB_mk ?_
           · have hj:=hfree j (by omega) h2
             have hji:E.getD j 0≠(i:Int):=fun e=>by
               rw [getD_of h2,← hie] at e
               have:=(List.getElem_inj hEn).1 e;omega
             have hj0:=hEr _ (List.getElem_mem h2)
             rw [← getD_of (d:=0) h2] at hj0
             rw [getD_set_ne (by omega)];exact hj
           · have oP5:=oP4.le l5
             have oc5:=oc4.le l5
             have ou5:=ou4.le l5
             unfold F179.B6
             refine take_ok (x:=t) hg he (AHeap.le_trans h04 l5) hcb hub hne hp1 hp2 oP5 oc5 ou5 (by simpa using hcl) hU4.1 (fun w hw=>(hU4.2 w hw).1) hil (by omega) (getD_set_self (by omega)) fun G6 t6 oc6 ou6=>asTup_mk ?_
             have hback:(c.set i (t:Int)).set i (-1)=c:=by
               rw [List.set_set,← hci,getD_of (by omega:i<c.length)];exact List.set_getElem_self _
             rw [hback] at oc6
             have hbit:=used_clash (x:=t) hU hab (by omega) (by omega)
             rw [hcl2,Nat.testBit_or,Bool.or_eq_false_iff] at hbit
             rw [ha,hb',Int.toNat_natCast,Int.toNat_natCast,give_take (by omega) (by omega) (by omega) (by omega) hua hub' hbit.1 hbit.2] at ou6
             have l36:G3.le G6:=(t4.trans ((Two.le l5).trans t6)).same oc3 oc6 ou3 ou6
             unfold F179.B5
             refine pif_cases (fun hb=>?_) fun hb=>?_
             · unfold F179.B4
               have kk:=kk G6 (AHeap.le_trans lG3 l36)
               have:ptB es (E.drop k) c=true:=by
                 rw [hdrop,ptB_cons,Int.toNat_natCast]
                 exact ⟨t,ht3,hcl2,hb⟩
               rw [this] at kk;exact kk
             · unfold F179.B3
               rw [wrap_id (by omega) (by omega)]
               refine ⟨⟨rfl,rfl,rfl,rfl,AHeap.le_trans hG3 l36,t+1,by omega,by omega,fun x hx=>?_⟩,by simp;omega⟩
               by_cases e:x=t
               · subst e;rw [hb];simp
               · exact hno x (by omega)
       · have ht3:t=3:=by have:=of_decide_eq_false hb;omega
         subst ht3
         unfold F179.B1
         have kk:=kk G3 lG3
         have:ptB es (E.drop k) c=false:=by
           rw [← Bool.not_eq_true,hdrop,ptB_cons,Int.toNat_natCast]
           rintro ⟨x,h1,h2⟩
           exact hno x h1 h2
         rw [this] at kk;exact kk)
end
end Go.Proofs
namespace Go.Proofs
open Go.Abs

variable {H G:AHeap} {v u f:Value} {l m c D:List Int} {es fs:List (Int × Int)} {K:Value→AHeap→Prop}

theorem used_none {N m:Nat}:UsedOk es N (List.replicate m (-1)) (List.replicate N 0):=by
 refine ⟨by simp,fun w hw=>?_⟩
 have e:(List.replicate N 0).getD w 0=0:=by simp [List.getD,hw]
 rw [e]
 refine ⟨by decide,fun k=>?_⟩
 simp only [Nat.zero_testBit,Bool.false_eq_true,false_iff]
 rintro ⟨j,h1,h2,_⟩
 rw [List.length_replicate] at h1
 have:(List.replicate m (-1:Int)).getD j 0=-1:=by simp [List.getD,h1]
 omega
theorem rep_get {m i:Nat} (h:i<m):(List.replicate m (-1:Int)).getD i 0=-1:=by simp [List.getD,h]
section
variable {n:Int} {H0:AHeap} {pb cb ub:Nat} {tP:TypeId} {qE:Value}
theorem start_ok {E:List Int} (hg:IsG n es) (he:Edges H0 v es) (hE:Ints H0 qE E) (hEn:E.Nodup) (hEr:∀ x∈E,0≤x∧x<es.length) (hcb:H0.length≤cb) (hub:H0.length≤ub) (hne:cb≠ub) (hp1:pb≠cb) (hp2:pb≠ub) (h0:H0.le G)
 (oP:Own G pb tP [.int .i64 n,v,qE,.slice (some ⟨cb,0,none⟩) es.length (es.length+1),.slice (some ⟨ub,0,none⟩) n.toNat (n.toNat+1),foundV])
 (oc:Own G cb 2 (LI (List.replicate es.length (-1)))) (ou:Own G ub 83 (LU (List.replicate n.toNat 0))) (k:∀ G',G.le G'→K (.bool (ptB es E (List.replicate es.length (-1)))) G') :
 AC Tryz.prog T0 128 [.pointer (some ⟨pb,0,none⟩)] G K:=by
 have n0:=hg.ed.lo;have n1:=hg.ed.hi
 have h30:es.length≤30:=by have:=hg.ed.len;omega
 apply F128.ac
 unfold F128.B17 F128.B16
 refine nilK_mk (asP_mk (ldI_own oP rfl ?_))
 unfold F128.L2
 refine ⟨fun x0 x11 x12 G'=>.pointer (some ⟨pb,0,none⟩)=x0∧n=x11∧G.le G'∧∃ i:Nat,x12=i∧i≤n.toNat,fun _ _ x12 _=>n.toNat-x12.toNat,⟨rfl,rfl,AHeap.le_refl _,0,rfl,by omega⟩,?_⟩
 rintro x0 x11 x12 G1 ⟨rfl,rfl,l1,i,rfl,hi⟩
 unfold F128.B15
 have oP1:=oP.le l1
 refine pif_cases (fun hb=>?_) fun hb=>?_
 ·have hin:i<n.toNat:=by have:=of_decide_eq_true hb;omega
  unfold F128.B14 F128.B13 F128.B12
  refine nilK_mk (asP_mk (ldI_own oP1 rfl (ld1_own oP1 rfl (at_ok (he.le (AHeap.le_trans h0 l1)) (by omega) fun w G2 l2 hW=>?_))))
  have h3:=hg.three (v:=(i:Int)) (by omega) (by omega)
  refine hW.len (by decide) (n:=3) (by rw [List.length_map,h3]) ?_
  unfold F128.L4
  refine ⟨fun x0 x4 x11 x12 x20 x21 x22 G'=>.pointer (some ⟨pb,0,none⟩)=x0∧n=x11∧((i:Nat):Int)=x12∧w=x20∧((3:Nat):Int)=x21∧G2=G'∧∃ t:Nat,x22=t∧t≤3,fun _ _ _ _ _ _ x22 _=>3-x22.toNat,⟨rfl,rfl,rfl,rfl,rfl,rfl,0,rfl,by omega⟩,?_⟩
  rintro x0 x4 x11 x12 x20 x21 x22 G' ⟨rfl,rfl,rfl,rfl,rfl,rfl,t,rfl,ht⟩
  have l12:=AHeap.le_trans l1 l2
  have oP2:=oP.le l12
  have oi:=own_ints (c:=es.length+1) (oc.le l12)
  rw [List.length_replicate] at oi
  unfold F128.B11
  refine pif_cases (fun hb=>?_) fun hb=>?_
  ·have ht3:t<3:=by have:=of_decide_eq_true hb;omega
   obtain ⟨j,hj1,hj2,hj3⟩:=at_get (es:=es) (w:=(i:Int)) (t:=t) (by omega)
   unfold F128.B10
   refine hW.ints.rd (by omega) (by omega) ?_
   rw [Int.toNat_natCast,hj1]
   unfold F128.B9
   refine nilK_mk (asP_mk (ld1_own oP2 rfl (oi.rd (by omega) (by rw [List.length_replicate];omega) ?_)))
   rw [Int.toNat_natCast,rep_get hj2]
   refine pif_t rfl ?_
   unfold F128.B5
   rw [wrap_id (by omega) (by omega)]
   exact ⟨⟨rfl,rfl,rfl,rfl,rfl,rfl,t+1,by omega,by omega⟩,by show 3-((t:Int)+1).toNat<3-(t:Int).toNat;omega⟩
  ·unfold F128.B3
   rw [wrap_id (by omega) (by omega)]
   exact ⟨⟨rfl,rfl,l12,i+1,by omega,by omega⟩,by show n.toNat-((i:Int)+1).toNat<n.toNat-(i:Int).toNat;omega⟩
 ·unfold F128.B1
  refine paint_ok hg he hE hEn hEr hcb hub hne hp1 hp2 E.length 0 _ _ G1 _ (by omega) (AHeap.le_trans h0 l1) oP1 (oc.le l1) (ou.le l1) (by simp) used_none (fun j _ h2=>?_) fun G2 l2=>asB_mk ?_
  ·have:=hEr _ (List.getElem_mem h2)
   rw [← getD_of (d:=0) h2] at this
   exact rep_get (by omega)
  ·rw [List.drop_zero]
   exact k G2 (AHeap.le_trans l1 l2)
end
theorem painterOf_ok {n:Int} {qE:Value} (hg:IsG n es) (he:Edges H v es) (hq:qE.oneCell'=true)
 (k:∀ pb cb ub tP G,H.le G→H.length≤cb→H.length≤ub→cb≠ub→pb≠cb→pb≠ub→Own G pb tP [.int .i64 n,v,qE,.slice (some ⟨cb,0,none⟩) es.length (es.length+1),.slice (some ⟨ub,0,none⟩) n.toNat (n.toNat+1),foundV]→
  Own G cb 2 (LI (List.replicate es.length (-1)))→Own G ub 83 (LU (List.replicate n.toNat 0))→K (.pointer (some ⟨pb,0,none⟩)) G) :
 AC Tryz.prog T0 126 [.agg ⟨[.int .i64 n,v]⟩,qE,.bool false,foundV] H K:=by
 have n0:=hg.ed.lo;have n1:=hg.ed.hi
 have h30:es.length≤30:=by have:=hg.ed.len;omega
 have hv:=edges_one' he
 apply F126.ac
 unfold F126.B10
 refine newK_f (all_iv hv) fun H1 l1 n1' o1=>?_
 have fin:∀ (G G':AHeap) (cb ub pb:Nat) (tP:TypeId),H1.le G→H1.length≤cb→H1.length≤ub→cb≠ub→pb≠cb→pb≠ub→Own G pb tP [.int .i64 n,v,qE,.slice (some ⟨cb,0,none⟩) es.length (es.length+1),.slice (some ⟨ub,0,none⟩) n.toNat (n.toNat+1),foundV]→
  Own G cb 2 (LI (List.replicate es.length (-1)))→Own G ub 83 (LU (List.replicate n.toNat 0))→F126.B8 K false H.length (.pointer (some ⟨pb,0,none⟩)) G:=by
  intro G G' cb ub pb tP hG h1 h2 h3 h4 h5 oP oc ou
  unfold F126.B8
  refine pif_f rfl ?_
  unfold F126.B1
  have:=l1.1
  exact k pb cb ub tP G (AHeap.le_trans l1 hG) (by omega) (by omega) h3 h4 h5 oP oc ou
 unfold F126.B9
 refine ldI_own o1 rfl (ld1_own o1 rfl (ld1_own o1 rfl ((he.le l1).len (ldI_own o1 rfl ⟨newK_f rfl fun H2 l2 n2 o2=>⟨?_,?_⟩,?_⟩))))
 ·have hb2:0≤0:=Nat.le_refl 0
  refine repeat_ok (t:=-1) (by simpa using o2) (by omega) (by omega) fun H3 l3 o3=>?_
  have l13:=AHeap.le_trans l2 l3
  refine ⟨ldI_own (o1.le l13) rfl (ld1_own (o1.le l13) rfl ⟨rfl,rfl⟩),ldI_own (o1.le l13) rfl ⟨rfl,rfl⟩,mkR_int (by omega) (by omega) (by decide) fun H4 l4 n4 o4=>pif_t hq (pif_t rfl (pif_t rfl (pif_t rfl (newK_f (by simp only [List.all_cons,List.all_nil,hv,hq];rfl) fun H5 l5 n5 o5=>?_))))⟩
  rw [rep_u] at o4
  have:=lt_of_get o3
  have:=l2.1
  exact fin H5 H5 _ _ _ _ (AHeap.le_trans l13 (AHeap.le_trans l4 l5)) (by omega) (by have:=l3.1;omega) (by omega) (by have:=l4.1;omega) (by omega) o5 (o3.le (AHeap.le_trans l4 l5)) (o4.le l5)
 ·refine mkR_int (by omega) (by omega) (by decide) fun H3 l3 n3 o3=>repeat_ok (t:=-1) (by simpa using o2.le l3) (by omega) (by omega) fun H4 l4 o4=>?_
  have l14:=AHeap.le_trans l2 (AHeap.le_trans l3 l4)
  refine ⟨ldI_own (o1.le l14) rfl (ld1_own (o1.le l14) rfl ⟨rfl,rfl⟩),ldI_own (o1.le l14) rfl ⟨rfl,rfl⟩,pif_t hq (pif_t rfl (pif_t rfl (pif_t rfl (newK_f (by simp only [List.all_cons,List.all_nil,hv,hq];rfl) fun H5 l5 n5 o5=>?_))))⟩
  rw [rep_u] at o3
  have:=lt_of_get o4
  have:=l2.1
  exact fin H5 H5 _ _ _ _ (AHeap.le_trans l14 l5) (by have:=l3.1;omega) (by omega) (by omega) (by omega) (by have:=l4.1;omega) o5 (o4.le l5) (o3.le (AHeap.le_trans l4 l5))
 ·refine mkR_int (by omega) (by omega) (by decide) fun H2 l2 n2 o2=>newK_f rfl fun H3 l3 n3 o3=>repeat_ok (t:=-1) (by simpa using o3) (by omega) (by omega) fun H4 l4 o4=>?_
  have l14:=AHeap.le_trans l2 (AHeap.le_trans l3 l4)
  refine ⟨ldI_own (o1.le l14) rfl (ld1_own (o1.le l14) rfl ⟨rfl,rfl⟩),ldI_own (o1.le l14) rfl ⟨rfl,rfl⟩,pif_t hq (pif_t rfl (pif_t rfl (pif_t rfl (newK_f (by simp only [List.all_cons,List.all_nil,hv,hq];rfl) fun H5 l5 n5 o5=>?_))))⟩
  rw [rep_u] at o2
  have:=lt_of_get o4
  exact fin H5 H5 _ _ _ _ (AHeap.le_trans l14 l5) (by have:=l2.1;have:=l3.1;omega) (by omega) (by have:=l3.1;omega) (by omega) (by have:=l3.1;have:=l4.1;omega) o5 (o4.le l5) (o2.le (AHeap.le_trans l3 (AHeap.le_trans l4 l5)))
theorem filt_mem {S:Nat→Bool} {m:Nat} {x:Int} (h:x∈filtB S m):0≤x∧x<m:=by
 unfold filtB at h
 obtain ⟨j,h1,rfl⟩:=List.mem_map.1 h
 have:=List.mem_range.1 (List.mem_filter.1 h1).1
 exact ⟨Int.natCast_nonneg j,by show ((j:Nat):Int)<m;omega⟩
theorem isPaintable_ok {n:Int} (hg:IsG n es) (he:Edges H v es) (hs:IsS l es.length) (k:∀ G,H.le G→K (.bool (wkQ es l)) G) :
 AC Tryz.prog T0 138 [.agg ⟨[.int .i64 n,v]⟩,.int .u64 (setN l:Nat)] H K:=by
 have n0:=hg.ed.lo;have n1:=hg.ed.hi
 have h30:es.length≤30:=by have:=hg.ed.len;omega
 have hsn:setN l<2^64:=setN_lt fun x hx=>by have:=hs.range x hx;omega
 have hp:2^es.length≤2^30:=Nat.pow_le_pow_right (by decide) h30
 have hfull:2^es.length-1<2^64:=by
  have:(2:Nat)^30<2^64:=by decide
  omega
 apply F138.ac
 unfold F138.B3
 refine newK_f (all_iv (edges_one' he)) fun H1 l1 n1' o1=>?_
 unfold F138.B2
 refine ldI_own o1 rfl (ld1_own o1 rfl (every_ok (he.le l1) (by omega) fun H2 l2=>asI_mk ?_))
 rw [bits_andnot hfull hsn]
 refine list_ok (Nat.lt_of_le_of_lt Nat.and_le_left hfull) fun w H3 l3 f3=>?_
 have eB:bitsL ((2^es.length-1)&&&(2^64-(setN l+1)))=filtB (fun j=>!bitB l j) es.length:=by
  have hb:∀ j,((2^es.length-1)&&&(2^64-(setN l+1))).testBit j=(decide (j<es.length)&&!bitB l j):=fun j=>by
   rw [andnot_bit hfull hsn,Nat.testBit_two_pow_sub_one];rfl
  rw [bitsL_filt (n:=es.length) (by omega) fun j hj=>by rw [hb,Bool.and_eq_true] at hj;exact of_decide_eq_true hj.1]
  exact filtB_congr fun j hj=>by rw [hb,decide_eq_true hj,Bool.true_and]
 rw [eB] at f3
 have l13:=AHeap.le_trans l1 (AHeap.le_trans l2 l3)
 have o3:=o1.le (AHeap.le_trans l2 l3)
 unfold F138.B1
 refine ldI_own o3 rfl (ld1_own o3 rfl (painterOf_ok hg (he.le l13) (ints_one f3.ints) fun pb cb ub tP G lG h1 h2 h3 h4 h5 oP oc ou=>?_))
 refine start_ok hg (he.le l13) f3.ints (filtB_nodup _ _) (fun x hx=>filt_mem hx) h1 h2 h3 h4 h5 lG oP oc ou fun G2 l4=>asB_mk ?_
 rw [← wkQ_pt]
 exact k G2 (AHeap.le_trans l13 (AHeap.le_trans lG l4))
end Go.Proofs
namespace Go.Proofs
open Go.Abs

variable {H G:AHeap} {v u f:Value} {l m c D:List Int} {es fs:List (Int × Int)} {K:Value→AHeap→Prop}

theorem upTo_last {q:List Int→Bool}:∀ {ls:List (List Int)} {l:List Int},ls.find? q=some l→(upTo q ls).getLast?=some l
 | [],l,h=>by cases h
 | x::ls,l,h=>by
  rw [List.find?_cons] at h
  unfold upTo
  cases hx:q x with
  | true=>rw [hx] at h;cases h;simp
  | false=>
   rw [hx] at h
   have:=upTo_last h
   simp only [Bool.false_eq_true,if_false]
   rw [List.getLast?_cons,this];rfl
theorem find_any {q:List Int→Bool} {ls:List (List Int)}:ls.any q=(ls.find? q).isSome:=by
 rw [Bool.eq_iff_iff,List.any_eq_true,List.find?_isSome]
noncomputable def wkOf (es:List (Int × Int)):List Int:=weakF es (es.length+1) 0
theorem weakF_some {l:List Int} {f k:Nat} (h:(cmb es.length k 0).find? (wkQ es)=some l):weakF es (f+1) k=l:=by
 rw [weakF,h]
theorem weakF_none {f k:Nat} (h:(cmb es.length k 0).find? (wkQ es)=none):weakF es (f+1) k=weakF es f (k+1):=by
 rw [weakF,h]
theorem weak_full:((cmb es.length es.length 0).find? (wkQ es)).isSome=true:=by
 obtain ⟨l,h1,h2⟩:=weak_some es
 rw [List.find?_isSome];exact ⟨l,h1,h2⟩
theorem weakF_mem:∀ (f k:Nat),k+f=es.length+1→(∀ l,(cmb es.length es.length 0).find? (wkQ es)=some l→True)→k≤es.length→∃ j,j≤es.length∧weakF es f k∈cmb es.length j 0
 | 0,k,h,_,hk=>absurd h (by omega)
 | f+1,k,h,hh,hk=>by
  cases hx:(cmb es.length k 0).find? (wkQ es) with
  | some l=>rw [weakF_some hx];exact ⟨k,hk,List.mem_of_find?_eq_some hx⟩
  | none=>
   have:k≠es.length:=fun e=>by
    have:=weak_full (es:=es)
    rw [← e] at this
    rw [e] at hx
    rw [e,hx] at this;cases this
   rw [weakF_none hx]
   exact weakF_mem f (k+1) (by omega) hh (by omega)
theorem wkOf_mem:∃ j,j≤es.length∧wkOf es∈cmb es.length j 0:=weakF_mem _ 0 (by omega) (fun _ _=>trivial) (by omega)
theorem wkOf_isS:IsS (wkOf es) es.length:=by
 obtain ⟨j,_,h⟩:=wkOf_mem (es:=es)
 exact (mem_cmb h).2.1
theorem weak1_ok {n:Int} {pb:Nat} {tp:TypeId} {x1:Nat} {x:Value} (hg:IsG n es) {H0:AHeap} (he:Edges H0 v es) (hs:IsS l es.length) (hx1:H0.length≤x1) (h0:H0.le G) (o1:Own G pb tp [.int .i64 n,v]) (hp:pb≠x1) (o3:Own G x1 83 [x])
 (k:∀ G',Two x1 x1 G G'→Own G' x1 83 [.int .u64 (setN l:Nat)]→K (.bool (wkQ es l)) G') :
 AC Tryz.prog T0 137 [.int .u64 (setN l:Nat),ptrV x1,ptrV pb] G K:=by
 apply F137.ac
 unfold F137.B3 F137.B2
 refine asP_mk (stK_f o3 (by simp) (by simp [Value.oneCell']) rfl fun G2 b2 o2=>?_)
 have o12:=b2.own o1 hp
 have h02:H0.le G2:=b2.le h0 hx1
 unfold F137.B1
 refine asP_mk (ldI_own o12 rfl (ld1_own o12 rfl (isPaintable_ok hg (he.le h02) hs fun G3 l3=>asB_mk ?_)))
 exact k G3 ((Two.butC b2).trans (.le l3)) (by simpa using o2.le l3)
theorem weak_ok {n:Int} (hg:IsG n es) (he:Edges H v es) (k:∀ G,H.le G→K (.int .u64 (setN (wkOf es):Nat)) G) :
 AC Tryz.prog T0 73 [.agg ⟨[.int .i64 n,v]⟩] H K:=by
 have n0:=hg.ed.lo;have n1:=hg.ed.hi
 have h30:es.length≤30:=by have:=hg.ed.len;omega
 apply F73.ac
 unfold F73.B7
 refine newK_f (all_iv (edges_one' he)) fun H1 l1 n1' o1=>?_
 unfold F73.B6
 refine newK_f rfl fun H2 l2 n2' o2=>?_
 obtain ⟨x,hx⟩:∃ x,x=H1.length:=⟨_,rfl⟩
 rw [← hx] at o2 ⊢
 have l12:=AHeap.le_trans l1 l2
 have o12:=o1.le l2
 unfold F73.B5 F73.L1
 refine ⟨fun x1 x3 x4 G=>H.length=x1∧x=x3∧Two x x H2 G∧∃ (s:Nat) (i:Nat),Own G x 83 [.int .u64 (s:Nat)]∧x4=i∧i≤es.length∧weakF es (es.length+1-i) i=wkOf es,fun _ _ x4 _=>es.length-x4.toNat,⟨rfl,rfl,.le (AHeap.le_refl _),0,0,o2,rfl,by omega,rfl⟩,?_⟩
 rintro x1 x3 x4 G ⟨rfl,rfl,tG,s,i,oG,rfl,hi,hw⟩
 have hlx:H.length<x:=by omega
 have lG:H.le G:=tG.base l12 (by omega) (by omega)
 have o1G:Own G H.length _ [.int .i64 n,v]:=tG.old _ _ (by omega) (by omega) o12
 unfold F73.B4
 refine ld1_own o1G rfl (lengthE_ok (he.le lG) (asI_mk ?_))
 have hxG:x<G.length:=lt_of_get oG
 refine choose_ok (m:=es.length) (n:=i) (by omega) (by omega) rfl
  (J:=fun B done G'=>Two x x B G'∧B.length≤G'.length∧∃ s:Nat,Own G' x 83 [.int .u64 (s:Nat)]∧∀ l,done.getLast?=some l→s=setN l) (q:=wkQ es) ?_ ?_ ?_ ?_
 ·intro B hB _
  exact ⟨.le (AHeap.le_refl _),Nat.le_refl _,s,oG.le hB,fun l h=>by cases h⟩
 ·intro B done G' hJ b o hb ho
  exact hJ.1.old b o (by omega) (by omega) ho
 ·intro B done l G' hB hBl ⟨hJ1,hJ2,s,oc,hs⟩ hlm hdn K hK
  refine callV_mk ?_
  refine weak1_ok hg (H0:=H) he (mem_cmb hlm).2.1 (by omega) (hJ1.base (AHeap.le_trans lG hB) (by omega) (by omega)) (hJ1.old _ _ (by omega) (by omega) (o1G.le hB)) (by omega) oc fun G2 t2 o2=>hK G2 ⟨hJ1.trans t2,Nat.le_trans hJ2 t2.len,_,o2,fun l' h=>by simp at h;rw [h]⟩
 ·intro B G' hB hBl ⟨hJ1,hJ2,s,oc,hs⟩
  have tG':Two x x H2 G':=tG.trans ((Two.le hB).trans hJ1)
  refine asB_mk (pif_cases (fun hb=>?_) fun hb=>?_)
  ·rw [find_any] at hb
   obtain ⟨l,hl⟩:=Option.isSome_iff_exists.1 hb
   unfold F73.B3
   refine ldI_own oc rfl ?_
   rw [hs l (upTo_last hl)]
   have:wkOf es=l:=by
    rw [← hw,show es.length+1-i=(es.length-i)+1 by omega,weakF_some hl]
   rw [← this]
   exact k G' (tG'.base l12 (by omega) (by omega))
  ·rw [find_any] at hb
   have hnone:(cmb es.length i 0).find? (wkQ es)=none:=by
    cases hx:(cmb es.length i 0).find? (wkQ es) with
    | none=>rfl
    | some l=>rw [hx] at hb;cases hb
   have hne:i≠es.length:=fun e=>by
    have:=weak_full (es:=es)
    rw [e] at hb
    rw [this] at hb;cases hb
   unfold F73.B2
   rw [wrap_id (by omega) (by omega)]
   refine ⟨⟨rfl,rfl,tG',s,i+1,oc,by omega,by omega,?_⟩,by show es.length-((i:Int)+1).toNat<es.length-(i:Int).toNat;omega⟩
   rw [← hw,show es.length+1-i=(es.length-i)+1 by omega,weakF_none hnone]
   congr 1;omega
noncomputable def smCode (n:Int) (es:List (Int × Int)) (x:Int):Int:=if IsG n es then (if x<n then 3 else 0) else 1
theorem smallCode_ok {n x:Int} (h:Edges H v es) (hl:es.length≤1048576) (k:∀ G,H.le G→K (.int .i64 (smCode n es x)) G):AC Tryz.prog T0 72 [.agg ⟨[.int .i64 n,v]⟩,.bool true,.int .i64 x] H K:=by
 apply F72.ac
 unfold F72.B7
 refine newK_f (all_iv (edges_one' h)) fun H1 l1 n1' o1=>?_
 unfold F72.B6
 refine ldI_own o1 rfl (ld1_own o1 rfl (graphCode_ok (b:=true) (h.le l1) hl fun H2 l2=>asI_mk ?_))
 have l12:=AHeap.le_trans l1 l2
 have k:=k H2 l12
 unfold smCode at k
 unfold F72.B5
 by_cases hg:IsG n es
 ·rw [if_pos hg] at k ⊢
  rw [if_pos rfl]
  refine pif_f rfl ?_
  unfold F72.B3
  refine ldI_own (o1.le l2) rfl (pif_cases (fun hb=>?_) fun hb=>?_)
  ·unfold F72.B2
   rw [if_pos (of_decide_eq_true hb)] at k
   exact k
  ·unfold F72.B1
   rw [if_neg (of_decide_eq_false hb)] at k
   exact k
 ·rw [if_neg hg] at k ⊢
  refine pif_t rfl ?_
  unfold F72.B4
  exact k
end Go.Proofs
namespace Go.Proofs
open Go.Abs

variable {H G:AHeap} {v u f:Value} {l m c D:List Int} {es fs:List (Int × Int)} {K:Value→AHeap→Prop}

end Go.Proofs
namespace Go.Proofs
open Go.Abs

variable {H G:AHeap} {v u f:Value} {l m c D:List Int} {es fs:List (Int × Int)} {K:Value→AHeap→Prop}

noncomputable def wsL (n:Int) (es:List (Int × Int)):List Int:=if smCode n es 12=0 then wkOf es else []
noncomputable def rsN (n:Int) (es:List (Int × Int)):Int:=(wsL n es).length
theorem smCode_zero {n x:Int} (h:smCode n es x=0):IsG n es:=by
 unfold smCode at h
 by_cases hg:IsG n es
 ·exact hg
 ·rw [if_neg hg] at h;cases h
theorem implRes_ok {n:Int} (h:Edges H v es) (hl:es.length≤1048576) (k:∀ G,H.le G→K (.tuple ⟨[.int .i64 (rsN n es),.int .i64 (smCode n es 12)]⟩) G):AC Tryz.prog T0 17 [.agg ⟨[.int .i64 n,v]⟩] H K:=by
 apply F17.ac
 unfold F17.B5
 refine newK_f (all_iv (edges_one' h)) fun H1 l1 _ o1=>?_
 unfold F17.B4
 refine ldI_own o1 rfl (ld1_own o1 rfl (smallCode_ok (h.le l1) hl fun H2 l2=>asI_mk ?_))
 have l12:=AHeap.le_trans l1 l2
 unfold F17.B3
 refine pif_cases (fun hs=>?_) fun hs=>?_
 ·unfold F17.B2
  have k:=k _ l12
  unfold rsN wsL at k
  rw [if_neg (bne_iff_ne.1 hs)] at k
  exact k
 ·have e:=bne_eq_false_iff_eq.1 hs
  have hg:=smCode_zero e
  have h30:es.length≤30:=by have:=hg.ed.len;have:=hg.ed.hi;omega
  have hS:=wkOf_isS (es:=es)
  have hsn:setN (wkOf es)<2^64:=setN_lt fun x hx=>by have:=hS.range x hx;omega
  unfold F17.B1
  refine ldI_own (o1.le l2) rfl (ld1_own (o1.le l2) rfl (weak_ok hg (h.le l12) fun H3 l3=>asI_mk (size_ok hsn (asI_mk ?_))))
  have k:=k _ (AHeap.le_trans l12 l3)
  unfold rsN wsL at k
  rw [if_pos e,e] at k
  have hpc:popc (setN (wkOf es)) 64=(wkOf es).length:=by
   show (bitsL (setN (wkOf es))).length=_
   rw [hS.bits (by omega)]
  rw [hpc]
  exact k
end Go.Proofs
namespace Go.Proofs
open Go.Abs

variable {es:List (Int × Int)} {l c d O:List Int} {L:List (List Int)} {n:Int}

theorem ptB_some:∀ (E c:List Int),E.Nodup→(∀ x∈E,0≤x∧x<c.length∧c.getD x.toNat 0=-1)→(ptB es E c=true↔∃ d,d∈ptL es E c)
 | [],c,_,_=>by
  unfold ptB ptL
  simp
 | i::E,c,hn,hE=>by
  obtain ⟨h1,h2,h3⟩:=hE i (by simp)
  obtain ⟨q,rfl⟩:∃ q:Nat,i=q:=⟨i.toNat,by omega⟩
  rw [Int.toNat_natCast] at h3
  rw [List.nodup_cons] at hn
  rw [ptB_cons,ptL_cons h3]
  have step:∀ x:Nat,(ptB es E (c.set q (x:Int))=true↔∃ d,d∈ptL es E (c.set q (x:Int))):=fun x=>by
   refine ptB_some E _ hn.2 fun y hy=>?_
   obtain ⟨g1,g2,g3⟩:=hE y (by simp [hy])
   refine ⟨g1,by simpa using g2,?_⟩
   rw [getD_set_ne fun e=>hn.1 (by rw [show ((q:Nat):Int)=y by omega];exact hy)]
   exact g3
  unfold ptTo
  constructor
  ·rintro ⟨x,hx,hc,hp⟩
   rw [Int.toNat_natCast] at hc hp
   obtain ⟨d,hd⟩:=(step x).1 hp
   refine ⟨d,List.mem_flatMap.2 ⟨x,List.mem_range.2 hx,?_⟩⟩
   rw [hc]
   simpa using hd
  ·rintro ⟨d,hd⟩
   obtain ⟨x,hx,hd⟩:=List.mem_flatMap.1 hd
   cases hc:clashB es c q (x:Int) with
   | true=>rw [hc] at hd;simp at hd
   | false=>
    rw [hc] at hd
    simp only [Bool.false_eq_true,if_false] at hd
    exact ⟨x,List.mem_range.1 hx,by rw [Int.toNat_natCast];exact hc,by rw [Int.toNat_natCast];exact (step x).2 ⟨d,hd⟩⟩
theorem wkQ_iff (hs:IsS l es.length):wkQ es l=true↔∃ d,PrpC es d∧∀ j:Nat,j<es.length→bitB l j=false→0≤d.getD j 0:=by
 rw [wkQ_pt,show List.replicate es.length (-1:Int)=blank es from rfl]
 have hE:∀ x∈filtB (fun j=>!bitB l j) es.length,0≤x∧x<es.length∧(blank es).getD x.toNat 0=-1:=fun x hx=>by
  obtain ⟨j,rfl,h1,_⟩:=mem_filtB.1 hx
  exact ⟨by omega,by omega,by rw [Int.toNat_natCast];exact blank_get h1⟩
 rw [ptB_some _ _ (filtB_nodup _ _) fun x hx=>⟨(hE x hx).1,by rw [blank_prp.len];exact (hE x hx).2.1,(hE x hx).2.2⟩]
 constructor
 ·rintro ⟨d,hd⟩
  obtain ⟨g1,_,g3⟩:=ptL_sound _ _ blank_prp (fun x hx=>⟨(hE x hx).1,(hE x hx).2.1⟩) d hd
  refine ⟨d,g1,fun j hj hb=>?_⟩
  have:=g3 (j:Int) (mem_filtB.2 ⟨j,rfl,hj,by simp [hb]⟩)
  rwa [Int.toNat_natCast] at this
 ·rintro ⟨d,hd,hp⟩
  have hdl:=hd.len
  -- d, blank on the set
  refine ⟨(List.range es.length).map fun j:Nat=>if bitB l j then -1 else d.getD j 0,?_⟩
  have get:∀ q,q<es.length→((List.range es.length).map fun j:Nat=>if bitB l j then (-1:Int) else d.getD j 0).getD q 0=if bitB l q then -1 else d.getD q 0:=fun q hq=>by
   rw [getD_of (by simpa using hq),List.getElem_map,List.getElem_range]
  refine mem_ptL2 (by simp) _ _ blank_prp.len (filtB_nodup _ _) (fun i hi=>?_) (fun j hj hn=>?_) fun i j hi hj hij hs h0=>?_
  ·obtain ⟨j,rfl,h1,h2⟩:=mem_filtB.1 hi
   have hb:bitB l j=false:=by simpa using h2
   rw [Int.toNat_natCast,get j h1,hb]
   have h3:=hp j h1 hb
   have h4:=hd.rng j
   exact ⟨by omega,by omega,.inl (blank_get h1),h3,h4.2⟩
  ·have hb:bitB l j=true:=by
    cases h:bitB l j with
    | true=>rfl
    | false=>exact absurd (mem_filtB.2 ⟨j,rfl,hj,by simp [h]⟩) hn
   rw [get j hj,hb,blank_get hj];rfl
  ·rw [get i hi] at h0 ⊢
   rw [get j hj]
   cases hbi:bitB l i with
   | true=>rw [hbi] at h0;simp at h0
   | false=>
    rw [hbi] at h0
    simp only [Bool.false_eq_true,if_false] at h0 ⊢
    cases hbj:bitB l j with
    | true=>simp only [if_true];omega
    | false=>
     simp only [Bool.false_eq_true,if_false]
     exact hd.col i j hi hj hij hs h0
theorem find_least {q:List Int→Bool}:∀ {L:List (List Int)} {l:List Int},l∈L→q l=true→∃ l',L.find? q=some l'
 | L,l,hl,hq=>by
  have:(L.find? q).isSome=true:=List.find?_isSome.2 ⟨l,hl,hq⟩
  exact Option.isSome_iff_exists.1 this
theorem weakF_le (hs:IsS l es.length) (hq:wkQ es l=true):∀ (f k:Nat),k+f=es.length+1→k≤l.length→(weakF es f k).length≤l.length∧wkQ es (weakF es f k)=true
 | 0,k,h,hk=>by have:=hs.short2;omega
 | f+1,k,h,hk=>by
  cases hx:(cmb es.length k 0).find? (wkQ es) with
  | some l'=>
   rw [weakF_some hx]
   have:=mem_cmb (List.mem_of_find?_eq_some hx)
   exact ⟨by rw [this.1];exact hk,List.find?_some hx⟩
  | none=>
   rw [weakF_none hx]
   have hne:k≠l.length:=fun e=>by
    have hm:l∈cmb es.length k 0:=cmb_mem e.symm hs.asc fun x hx=>by have:=hs.range x hx;omega
    obtain ⟨l',h'⟩:=find_least hm hq
    rw [hx] at h';cases h'
   exact weakF_le hs hq f (k+1) (by omega) (by omega)
theorem wkOf_le (hs:IsS l es.length) (hq:wkQ es l=true):(wkOf es).length≤l.length∧wkQ es (wkOf es)=true:=weakF_le hs hq _ 0 (by omega) (by omega)
theorem wkQ_nil:wkQ es []=true↔∃ c,IsC es c:=by
 have hb:∀ j,bitB ([]:List Int) j=false:=fun j=>by unfold bitB setN;simp
 rw [wkQ_iff (isS_nil _)]
 constructor
 ·rintro ⟨d,hd,hp⟩
  refine ⟨d,hd.len,fun x hx=>?_,fun j hj i hij hs=>?_⟩
  ·obtain ⟨j,hj,rfl⟩:=List.getElem_of_mem hx
   rw [← getD_of (d:=0) hj]
   have hl:=hd.len
   exact ⟨hp j (by omega) (hb j),(hd.rng j).2⟩
  ·exact hd.col i j (by omega) hj (by omega) hs (hp i (by omega) (hb i))
 ·rintro ⟨c,hc⟩
  refine ⟨c,⟨hc.len,fun j=>by have:=hc.get j;omega,fun i j hi hj hij hs _=>?_⟩,fun j _ _=>(hc.get j).1⟩
  rcases Nat.lt_or_gt_of_ne hij with h|h
  ·exact hc.col j hj i h hs
  ·exact fun e=>hc.col i hi j h (share_symm hs) e.symm
theorem rsN_zero (h:smCode n es 12=0):rsN n es=0↔∃ c,IsC es c:=by
 have e:rsN n es=((wkOf es).length:Nat):=by unfold rsN wsL;rw [if_pos h]
 rw [e,← wkQ_nil]
 constructor
 ·intro h0
  obtain ⟨l,h1,h2⟩:=weak_some es
  have hm:=mem_cmb h1
  have:=(wkOf_le hm.2.1 h2).2
  rwa [List.length_eq_zero_iff.1 (show (wkOf es).length=0 by omega)] at this
 ·intro hq
  have h1:(wkOf es).length≤0:=(wkOf_le (isS_nil _) hq).1
  omega
end Go.Proofs
namespace Go.Proofs
open Go.Abs

variable {H G:AHeap} {v u f:Value} {l m c D:List Int} {es fs:List (Int × Int)} {K:Value→AHeap→Prop}

theorem sl_two {m0:Nat} {t:TypeId} {z:Nat} {cs:List Value} (h:Sl m0 H v t z cs) (k:∀ (b:Nat) (o:AObj),m0≤b→H[b]?=some (some o)→G[b]?=some (some o)):Sl m0 G v t z cs:=by
 rcases h with h|⟨b,n,pre,post,h1,h2,h3,h4⟩
 ·exact .inl h
 ·exact .inr ⟨b,n,pre,post,h1,h2,k b _ h1 h3,h4⟩
theorem painterB_ok {bb:Bool} {n:Int} {qE fV:Value} (hg:IsG n es) (he:Edges H v es) (hq:qE.oneCell'=true) (hf:fV.oneCell'=true)
 (k:∀ pb cb ub tP G,H.le G→H.length≤pb→H.length≤cb→H.length≤ub→cb≠ub→pb≠cb→pb≠ub→Own G pb tP [.int .i64 n,v,qE,.slice (some ⟨cb,0,none⟩) es.length (es.length+1),.slice (some ⟨ub,0,none⟩) n.toNat (n.toNat+1),fV]→
  Own G cb 2 (LI (blank es))→Own G ub 83 (LU (List.replicate n.toNat 0))→Own G H.length 31 [.int .i64 n,v]→F126.B8 K bb H.length (.pointer (some ⟨pb,0,none⟩)) G) :
 AC Tryz.prog T0 126 [.agg ⟨[.int .i64 n,v]⟩,qE,.bool bb,fV] H K:=by
 have n0:=hg.ed.lo;have n1:=hg.ed.hi
 have h30:es.length≤30:=by have:=hg.ed.len;omega
 have hv:=edges_one' he
 apply F126.ac
 unfold F126.B10
 refine newK_f (all_iv hv) fun H1 l1 n1' o1=>?_
 have fin:∀ (G G':AHeap) (cb ub pb:Nat) (tP:TypeId),H1.le G→H1.length≤cb→H1.length≤ub→H1.length≤pb→cb≠ub→pb≠cb→pb≠ub→Own G pb tP [.int .i64 n,v,qE,.slice (some ⟨cb,0,none⟩) es.length (es.length+1),.slice (some ⟨ub,0,none⟩) n.toNat (n.toNat+1),fV]→
  Own G cb 2 (LI (List.replicate es.length (-1)))→Own G ub 83 (LU (List.replicate n.toNat 0))→F126.B8 K bb H.length (.pointer (some ⟨pb,0,none⟩)) G:=by
  intro G G' cb ub pb tP hG h1 h2 h6 h3 h4 h5 oP oc ou
  have:=l1.1
  exact k pb cb ub tP G (AHeap.le_trans l1 hG) (by omega) (by omega) (by omega) h3 h4 h5 oP oc ou (o1.le hG)
 unfold F126.B9
 refine ldI_own o1 rfl (ld1_own o1 rfl (ld1_own o1 rfl ((he.le l1).len (ldI_own o1 rfl ⟨newK_f rfl fun H2 l2 n2 o2=>⟨?_,?_⟩,?_⟩))))
 ·refine repeat_ok (t:=-1) (by simpa using o2) (by omega) (by omega) fun H3 l3 o3=>?_
  have l13:=AHeap.le_trans l2 l3
  refine ⟨ldI_own (o1.le l13) rfl (ld1_own (o1.le l13) rfl ⟨rfl,rfl⟩),ldI_own (o1.le l13) rfl ⟨rfl,rfl⟩,mkR_int (by omega) (by omega) (by decide) fun H4 l4 n4 o4=>pif_t hq (pif_t rfl (pif_t rfl (pif_t hf (newK_f (by simp only [List.all_cons,List.all_nil,hv,hq,hf];rfl) fun H5 l5 n5 o5=>?_))))⟩
  rw [rep_u] at o4
  have:=lt_of_get o3
  have:=l2.1
  exact fin H5 H5 _ _ _ _ (AHeap.le_trans l13 (AHeap.le_trans l4 l5)) (by omega) (by have:=l3.1;omega) (by have:=l3.1;have:=l4.1;omega) (by omega) (by have:=l4.1;omega) (by omega) o5 (o3.le (AHeap.le_trans l4 l5)) (o4.le l5)
 ·refine mkR_int (by omega) (by omega) (by decide) fun H3 l3 n3 o3=>repeat_ok (t:=-1) (by simpa using o2.le l3) (by omega) (by omega) fun H4 l4 o4=>?_
  have l14:=AHeap.le_trans l2 (AHeap.le_trans l3 l4)
  refine ⟨ldI_own (o1.le l14) rfl (ld1_own (o1.le l14) rfl ⟨rfl,rfl⟩),ldI_own (o1.le l14) rfl ⟨rfl,rfl⟩,pif_t hq (pif_t rfl (pif_t rfl (pif_t hf (newK_f (by simp only [List.all_cons,List.all_nil,hv,hq,hf];rfl) fun H5 l5 n5 o5=>?_))))⟩
  rw [rep_u] at o3
  have:=lt_of_get o4
  have:=l2.1
  exact fin H5 H5 _ _ _ _ (AHeap.le_trans l14 l5) (by have:=l3.1;omega) (by omega) (by have:=l3.1;have:=l4.1;omega) (by omega) (by omega) (by have:=l4.1;omega) o5 (o4.le l5) (o3.le (AHeap.le_trans l4 l5))
 ·refine mkR_int (by omega) (by omega) (by decide) fun H2 l2 n2 o2=>newK_f rfl fun H3 l3 n3 o3=>repeat_ok (t:=-1) (by simpa using o3) (by omega) (by omega) fun H4 l4 o4=>?_
  have l14:=AHeap.le_trans l2 (AHeap.le_trans l3 l4)
  refine ⟨ldI_own (o1.le l14) rfl (ld1_own (o1.le l14) rfl ⟨rfl,rfl⟩),ldI_own (o1.le l14) rfl ⟨rfl,rfl⟩,pif_t hq (pif_t rfl (pif_t rfl (pif_t hf (newK_f (by simp only [List.all_cons,List.all_nil,hv,hq,hf];rfl) fun H5 l5 n5 o5=>?_))))⟩
  rw [rep_u] at o2
  have:=lt_of_get o4
  exact fin H5 H5 _ _ _ _ (AHeap.le_trans l14 l5) (by have:=l2.1;have:=l3.1;omega) (by omega) (by have:=l2.1;have:=l3.1;have:=l4.1;omega) (by have:=l3.1;omega) (by omega) (by have:=l3.1;have:=l4.1;omega) o5 (o4.le l5) (o2.le (AHeap.le_trans l3 (AHeap.le_trans l4 l5)))
theorem painterN_ok {n:Int} {qE fV:Value} (hg:IsG n es) (he:Edges H v es) (hq:qE.oneCell'=true) (hf:fV.oneCell'=true)
 (k:∀ pb cb ub tP us G,H.le G→H.length≤pb→H.length≤cb→H.length≤ub→cb≠ub→pb≠cb→pb≠ub→Own G pb tP [.int .i64 n,v,qE,.slice (some ⟨cb,0,none⟩) es.length (es.length+1),.slice (some ⟨ub,0,none⟩) n.toNat (n.toNat+1),fV]→
  Own G cb 2 (LI (nstTo es 3))→Own G ub 83 (LU us)→UsedOk es n.toNat (nstTo es 3) us→K (.pointer (some ⟨pb,0,none⟩)) G) :
 AC Tryz.prog T0 126 [.agg ⟨[.int .i64 n,v]⟩,qE,.bool true,fV] H K:=by
 have n0:=hg.ed.lo;have n1:=hg.ed.hi
 have h30:es.length≤30:=by have:=hg.ed.len;omega
 refine painterB_ok hg he hq hf fun pb cb ub tP G lG hp hc hu q3 q4 q5 oP oc ou oG=>?_
 unfold F126.B8
 refine pif_t rfl ?_
 unfold F126.B7
 refine ldI_own oG rfl (ld1_own oG rfl (at_ok (he.le lG) (by omega) fun w G2 l2 hW=>?_))
 have h3:=hg.three (v:=0) (by omega) (by omega)
 refine hW.len (by decide) (n:=3) (by rw [List.length_map,h3]) ?_
 have hcl:=lt_of_get oc
 have hul:=lt_of_get ou
 have hpl:=lt_of_get oP
 unfold F126.L2
 refine ⟨fun x9 x27 x28 x29 G'=>.pointer (some ⟨pb,0,none⟩)=x9∧w=x27∧((3:Nat):Int)=x28∧∃ (t:Nat) (us:List Nat),x29=t∧t≤3∧Two cb ub G2 G'∧Own G' cb 2 (LI (nstTo es t))∧Own G' ub 83 (LU us)∧UsedOk es n.toNat (nstTo es t) us,fun _ _ _ x29 _=>3-x29.toNat,
  ⟨rfl,rfl,rfl,0,_,rfl,by omega,.le (AHeap.le_refl _),oc.le l2,ou.le l2,usedG_none⟩,?_⟩
 rintro x9 x27 x28 x29 G' ⟨rfl,rfl,rfl,t,us,rfl,ht,tw,oc',ou',hU⟩
 have oP':=tw.old _ _ q4 q5 (oP.le l2)
 have lG':=tw.base (AHeap.le_trans lG l2) hc hu
 unfold F126.B6
 refine pif_cases (fun hb=>?_) fun hb=>?_
 ·have ht3:t<3:=by have:=of_decide_eq_true hb;omega
  have hW':Ints G' w (atL es 0):=(sl_two hW fun b o hb ho=>tw.old b o (by omega) (by omega) ho).ints
  obtain ⟨j,hj1,hj2,hj3⟩:=at0_get hg ht3
  unfold F126.B5
  refine hW'.rd (by omega) (by omega) ?_
  rw [Int.toNat_natCast,hj1]
  unfold F126.B4
  have hbl:(nstTo es t).getD j 0=-1:=nstTo_out hg hj2 ht fun s hs e=>by
   have:=at0_inj hg (s:=s) (t:=t) (by omega) ht3 (by rw [e,hj1])
   omega
  have hul':=hU.1
  refine give_ok (x:=t) hg he lG' hc hu q3 q4 q5 oP' oc' ou' (nstTo_len t) hul' (fun w hw=>(hU.2 w hw).1) hj2 (by omega) fun G3 t3 oc3 ou3=>asTup_mk ?_
  obtain ⟨a,b,e1,e2,e3⟩:=edge_ends hg hj2
  have hU3:=hU.give (x:=t) (by rw [nstTo_len];exact hj2) hbl e1 (by omega) (by omega) (by omega) (by omega)
  rw [e1,Int.toNat_natCast,Int.toNat_natCast] at ou3
  unfold F126.B3
  rw [wrap_id (by omega) (by omega)]
  have hs:nstTo es (t+1)=(nstTo es t).set j (t:Int):=by rw [nstTo,hj1,Int.toNat_natCast]
  exact ⟨⟨rfl,rfl,rfl,t+1,_,by omega,by omega,tw.trans t3,by rw [hs];exact oc3,ou3,by rw [hs];exact hU3⟩,by simp;omega⟩
 ·have:t=3:=by have:=of_decide_eq_false hb;omega
  subst this
  unfold F126.B1
  exact k pb cb ub tP us G' lG' hp hc hu q3 q4 q5 oP' oc' ou' hU
section
variable {n:Int} {H0:AHeap} {pb cb ub:Nat} {tP:TypeId} {qE fV:Value} {X:Nat→Prop} {J:List (List Int)→AHeap→Prop} {q:List Int→Bool} {N Bd:Nat}
theorem startN_ok {E:List Int} {us:List Nat} {done:List (List Int)} (hC:Caller es H0 pb cb ub fV X Bd J q N) (hg:IsG n es) (he:Edges H0 v es) (hE:Ints H0 qE E) (hEl:E.length≤1000) (hEr:∀ x∈E,0≤x∧x<es.length) (hcb:H0.length≤cb) (hub:H0.length≤ub) (hne:cb≠ub) (hp1:pb≠cb) (hp2:pb≠ub) (h0:H0.le G) (hBd:Bd≤G.length) (hc:PrpC es c) (hU:UsedOk es n.toNat c us)
 (oP:Own G pb tP [.int .i64 n,v,qE,.slice (some ⟨cb,0,none⟩) es.length (es.length+1),.slice (some ⟨ub,0,none⟩) n.toNat (n.toNat+1),fV])
 (oc:Own G cb 2 (LI c)) (ou:Own G ub 83 (LU us)) (hJ:J done G) (hN:done.length+(ptL es E c).length≤N)
 (k:∀ G',Fnd X G G'→J (done++upTo q (ptL es E c)) G'→K (.bool ((ptL es E c).any q)) G') :
 AC Tryz.prog T0 128 [.pointer (some ⟨pb,0,none⟩)] G K:=by
 have n0:=hg.ed.lo;have n1:=hg.ed.hi
 have h30:es.length≤30:=by have:=hg.ed.len;omega
 have hcl:=hc.len
 apply F128.ac
 unfold F128.B17 F128.B16
 refine nilK_mk (asP_mk (ldI_own oP rfl ?_))
 unfold F128.L2
 refine ⟨fun x0 x11 x12 G'=>.pointer (some ⟨pb,0,none⟩)=x0∧n=x11∧G.le G'∧∃ i:Nat,x12=i∧i≤n.toNat,fun _ _ x12 _=>n.toNat-x12.toNat,⟨rfl,rfl,AHeap.le_refl _,0,rfl,by omega⟩,?_⟩
 rintro x0 x11 x12 G1 ⟨rfl,rfl,l1,i,rfl,hi⟩
 unfold F128.B15
 have oP1:=oP.le l1
 refine pif_cases (fun hb=>?_) fun hb=>?_
 ·have hin:i<n.toNat:=by have:=of_decide_eq_true hb;omega
  unfold F128.B14 F128.B13 F128.B12
  refine nilK_mk (asP_mk (ldI_own oP1 rfl (ld1_own oP1 rfl (at_ok (he.le (AHeap.le_trans h0 l1)) (by omega) fun w G2 l2 hW=>?_))))
  have h3:=hg.three (v:=(i:Int)) (by omega) (by omega)
  refine hW.len (by decide) (n:=3) (by rw [List.length_map,h3]) ?_
  unfold F128.L4
  refine ⟨fun x0 x4 x11 x12 x20 x21 x22 G'=>.pointer (some ⟨pb,0,none⟩)=x0∧n=x11∧((i:Nat):Int)=x12∧w=x20∧((3:Nat):Int)=x21∧G2=G'∧∃ t s:Nat,x22=t∧t≤3∧x4=s∧s<2^64∧∀ k:Nat,s.testBit k=true↔∃ t',t'<t∧c.getD ((atL es (i:Int)).getD t' 0).toNat 0=k,fun _ _ _ _ _ _ x22 _=>3-x22.toNat,⟨rfl,rfl,rfl,rfl,rfl,rfl,0,0,rfl,by omega,rfl,by decide,fun k=>by simp⟩,?_⟩
  rintro x0 x4 x11 x12 x20 x21 x22 G' ⟨rfl,rfl,rfl,rfl,rfl,rfl,t,s,rfl,ht,rfl,hs64,hs⟩
  have l12:=AHeap.le_trans l1 l2
  have oP2:=oP.le l12
  have oi:=own_ints (c:=es.length+1) (oc.le l12)
  rw [hcl] at oi
  unfold F128.B11
  refine pif_cases (fun hb=>?_) fun hb=>?_
  ·have ht3:t<3:=by have:=of_decide_eq_true hb;omega
   obtain ⟨j,hj1,hj2,hj3⟩:=at_get (es:=es) (w:=(i:Int)) (t:=t) (by omega)
   unfold F128.B10
   refine hW.ints.rd (by omega) (by omega) ?_
   rw [Int.toNat_natCast,hj1]
   unfold F128.B9
   refine nilK_mk (asP_mk (ld1_own oP2 rfl (oi.rd (by omega) (by omega) ?_)))
   rw [Int.toNat_natCast]
   have hrj:=hc.rng j
   refine pif_cases (fun hc1=>?_) fun hc1=>?_
   ·have hc1:c.getD j 0=-1:=beq_iff_eq.1 hc1
    unfold F128.B5
    rw [wrap_id (by omega) (by omega)]
    refine ⟨⟨rfl,rfl,rfl,rfl,rfl,rfl,t+1,s,by omega,by omega,rfl,hs64,fun k=>?_⟩,by show 3-((t:Int)+1).toNat<3-(t:Int).toNat;omega⟩
    rw [hs k]
    constructor
    ·rintro ⟨t',h1,h2⟩;exact ⟨t',by omega,h2⟩
    ·rintro ⟨t',h1,h2⟩
     by_cases e:t'=t
     ·subst e;rw [hj1,Int.toNat_natCast] at h2;omega
     ·exact ⟨t',by omega,h2⟩
   ·have hc1:c.getD j 0≠-1:=beq_eq_false_iff_ne.1 hc1
    have hfalse:s.testBit (c.getD j 0).toNat=false:=by
     cases hbt:s.testBit (c.getD j 0).toNat with
     | false=>rfl
     | true=>
      obtain ⟨t',h1,h2⟩:=(hs _).1 hbt
      obtain ⟨j',g1,g2,g3⟩:=at_get (es:=es) (w:=(i:Int)) (t:=t') (by omega)
      rw [g1,Int.toNat_natCast] at h2
      have hne':j'≠j:=fun e=>by
       have hnd:(atL es (i:Int)).Nodup:=filtB_nodup _ _
       have e2:(atL es (i:Int)).getD t' 0=(atL es (i:Int)).getD t 0:=by rw [g1,hj1,e]
       rw [getD_of (by omega),getD_of (by omega)] at e2
       have:=(List.getElem_inj hnd).1 e2
       omega
      exact absurd (show c.getD j 0=c.getD j' 0 by omega) (hc.col j j' hj2 g2 (fun e=>hne' e.symm) ⟨_,hj3,g3⟩ (by omega))
    unfold F128.B8
    refine nilK_mk (asP_mk (ld1_own oP2 rfl (oi.rd (by omega) (by omega) ?_)))
    rw [Int.toNat_natCast]
    refine has_ok hs64 (by omega) (asB_mk (pif_f hfalse ?_))
    unfold F128.B6
    refine nilK_mk (asP_mk (ld1_own oP2 rfl (oi.rd (by omega) (by omega) ?_)))
    rw [Int.toNat_natCast]
    have px:2^(c.getD j 0).toNat<2^64:=Nat.pow_lt_pow_right (by decide) (by omega)
    refine ⟨by omega,?_⟩
    rw [one_shl (by omega) (by omega),bits_or hs64 px]
    unfold F128.B5
    rw [wrap_id (by omega) (by omega)]
    refine ⟨⟨rfl,rfl,rfl,rfl,rfl,rfl,t+1,s|||2^(c.getD j 0).toNat,by omega,by omega,rfl,or_lt hs64 px,fun k=>?_⟩,by show 3-((t:Int)+1).toNat<3-(t:Int).toNat;omega⟩
    rw [Nat.testBit_or,Bool.or_eq_true,hs k,Nat.testBit_two_pow,decide_eq_true_iff]
    constructor
    ·rintro (⟨t',h1,h2⟩|h)
     ·exact ⟨t',by omega,h2⟩
     ·exact ⟨t,by omega,by rw [hj1,Int.toNat_natCast];omega⟩
    ·rintro ⟨t',h1,h2⟩
     by_cases e:t'=t
     ·subst e;rw [hj1,Int.toNat_natCast] at h2;right;omega
     ·exact .inl ⟨t',by omega,h2⟩
  ·unfold F128.B3
   rw [wrap_id (by omega) (by omega)]
   exact ⟨⟨rfl,rfl,l12,i+1,by omega,by omega⟩,by show n.toNat-((i:Int)+1).toNat<n.toNat-(i:Int).toNat;omega⟩
 ·unfold F128.B1
  have hl1:=l1.1
  refine paintG_ok hC hg he hE hEl hEr hcb hub hne hp1 hp2 E.length 0 _ _ done G1 _ (by omega) (by omega) (AHeap.le_trans h0 l1) (by omega) oP1 (oc.le l1) (ou.le l1) hcl hU (hC.st _ _ _ hJ (.le l1)) (by rw [List.drop_zero];exact hN) fun G2 f2 hJ2=>asB_mk ?_
  rw [List.drop_zero] at hJ2 ⊢
  exact k G2 ((Fnd.le l1).trans f2) hJ2
end
end Go.Proofs
namespace Go.Proofs
open Go.Abs

variable {H G:AHeap} {v u f:Value} {l m c D:List Int} {es fs:List (Int × Int)} {K:Value→AHeap→Prop} {n:Int}

theorem noB_le (G:AHeap) (b:Nat):AHeap.le (G.set b none) G:=by
 refine ⟨by simp,fun c o h=>?_⟩
 by_cases e:c=b
 ·subst e
  rw [List.getElem?_set] at h
  simp at h
 ·rwa [List.getElem?_set_ne (fun h=>e h.symm)] at h
theorem le_noB {b:Nat} (h:H.le G) (hb:H.length≤b):H.le (G.set b none):=by
 refine ⟨by simpa using h.1,fun c o ho=>?_⟩
 have:=lt_of_get ho
 rw [List.getElem?_set_ne (by omega)]
 exact h.2 c o ho
theorem noB_get {b c:Nat} {o:AObj} (h:(G.set b none:AHeap)[c]?=some (some o)):c≠b:=fun e=>by
 subst e
 rw [List.getElem?_set] at h
 simp at h
theorem lead_zero {N:Nat} (h:0<N):∃ r,leadL es N=0::r:=by
 obtain ⟨k,rfl⟩:∃ k,N=k+1:=⟨N-1,by omega⟩
 unfold leadL
 rw [List.range_succ_eq_map,List.filter_cons,if_pos (vLeadB_iff.2 fun b hb=>absurd hb (by omega))]
 exact ⟨_,rfl⟩
noncomputable def stN (es:List (Int × Int)) (i:Nat):List Int:=if i=0 then nstTo es 3 else blank es
theorem stN_prp (hg:IsG n es) (i:Nat):PrpC es (stN es i):=by
 unfold stN;split
 ·exact nst_prp hg (Nat.le_refl _)
 ·exact blank_prp
theorem stN_has (hg:IsG n es) (hc:∃ c,IsC es c) {i:Nat} (hi:i<(partL es n.toNat).length):ptL es ((partL es n.toNat).getD i []) (stN es i)≠[]:=by
 obtain ⟨c,hc⟩:=hc
 have n0:=hg.ed.lo
 have hl:i<(leadL es n.toNat).length:=by unfold partL at hi;simpa using hi
 rw [partL_get hl]
 unfold stN
 by_cases h0:i=0
 ·subst h0
  rw [if_pos rfl]
  obtain ⟨r,hr⟩:=lead_zero (es:=es) (show 0<n.toNat by omega)
  have:(leadL es n.toNat)[0]=0:=by simp only [hr,List.getElem_cons_zero]
  rw [this]
  obtain ⟨d,hd⟩:=nst_mem hg hc
  exact fun e=>by rw [e] at hd;cases hd
 ·rw [if_neg h0]
  exact fun e=>by have:=restr_mem hc (v:=(leadL es n.toNat)[i]);rw [e] at this;cases this
theorem stN_all (hg:IsG n es) (h:∀ i,i<(partL es n.toNat).length→ptL es ((partL es n.toNat).getD i []) (stN es i)≠[]):∃ c,IsC es c:=by
 refine parts_isC hg fun v hv=>?_
 obtain ⟨i,hi,rfl⟩:=List.getElem_of_mem hv
 have:=h i (by unfold partL;simpa using hi)
 rw [partL_get hi] at this
 obtain ⟨d,hd⟩:=List.exists_mem_of_ne_nil _ this
 obtain ⟨g1,_,g3⟩:=ptL_sound _ _ (stN_prp hg i) (fun x hx=>partE_rng hx) d hd
 exact ⟨d,g1,g3⟩
theorem any_true {L:List (List Int)}:L.any (fun _=>true)=!L.isEmpty:=by cases L <;> simp
theorem first_ok (h:Edges H v es) (hg:IsG n es) (k:∀ v' G,H.le G→(∀ K:Bool→Prop,(∀ b:Bool,(b=true↔¬ ∃ c,IsC es c)→K b)→isNilK v' K)→K v' G) :
 AC Tryz.prog T0 76 [.agg ⟨[.int .i64 n,v]⟩] H K:=by
 have n0:=hg.ed.lo;have n1:=hg.ed.hi
 have h30:es.length≤30:=by have:=hg.ed.len;omega
 apply F76.ac
 unfold F76.B11
 refine newK_f (all_iv (edges_one' h)) fun H1 l1 n1' o1=>?_
 unfold F76.B10
 refine ld1_own o1 rfl ((h.le l1).len (mkR_int (by omega) (by omega) (by decide) fun H2 l2 n2 o2=>?_))
 refine newK_f rfl fun H3 l3 n3 o3=>pif_t rfl (stK_1 o3 (by simp) rfl fun H4 b4 o4=>?_)
 rw [rep_one] at o2
 have l34:H2.le H4:=b4.le l3 (Nat.le_refl _)
 have l24:H1.le H4:=AHeap.le_trans l2 l34
 have l04:=AHeap.le_trans l1 l24
 have hlt1:=lt_of_get o1
 have hlt2:=lt_of_get o2
 have hl4:=l34.1
 obtain ⟨ob,hob⟩:∃ ob,ob=H1.length:=⟨_,rfl⟩
 obtain ⟨xb,hxb⟩:∃ xb,xb=H2.length:=⟨_,rfl⟩
 rw [← hob] at o2 o4
 rw [← hxb] at o4 ⊢
 simp only [Int.toNat_natCast,List.set_cons_zero] at o4 o2
 unfold F76.B9
 refine ldI_own (o1.le l24) rfl (ld1_own (o1.le l24) rfl (partEdges_ok (h.le l04) hg fun x8 H5 l5 hR=>?_))
 have hpl:=partL_length (es:=es) n.toNat
 have hsn:=sidesN_le es n.toNat
 have hlt4:=lt_of_get o4
 have hl5:=l5.1
 refine hR.len ?_
 have out5:Own H5 ob 2 (LI (List.replicate es.length 0)):=(o2.le l34).le l5
 have x5':=o4.le l5
 have g5:=(o1.le l24).le l5
 have l15:=AHeap.le_trans l24 l5
 have l05:=AHeap.le_trans l1 l15
 unfold F76.L2
 refine ⟨fun x1 x3 x12 x13 x14 G=>H.length=x1∧xb=x3∧x8=x12∧(((partL es n.toNat).length:Nat):Int)=x13∧Fnd (fun b=>b=ob) H5 G∧(∃ o:List Int,Own G ob 2 (LI o)∧o.length=es.length)∧∃ i:Nat,x14=i∧i≤(partL es n.toNat).length∧∀ j,j<i→ptL es ((partL es n.toNat).getD j []) (stN es j)≠[],
  fun _ _ _ _ x14 _=>(partL es n.toNat).length-x14.toNat,⟨rfl,rfl,rfl,rfl,.refl,⟨_,out5,by simp⟩,0,rfl,by omega,fun j hj=>absurd hj (by omega)⟩,?_⟩
 rintro x1 x3 x12 x13 x14 G ⟨rfl,rfl,rfl,rfl,fG,⟨o,oo,hol⟩,i,rfl,hi,hall⟩
 have oxG:=fG.own x5' (by omega)
 have ogG:=fG.own g5 (by omega)
 have hGl:=fG.len
 have hob0:H.length≤ob:=by have:=l1.1;omega
 have l0G:H.le G:=fG.base l05 fun b o hb=>by have:=lt_of_get hb;omega
 have hRG:=hR.move (G:=G) fun b o ha _ ho=>fG.old b o (by omega) ho
 unfold F76.B8
 refine pif_cases (fun hb=>?_) fun hb=>?_
 ·have hlt:i<(partL es n.toNat).length:=by have:=of_decide_eq_true hb;omega
  have hE:(partL es n.toNat).getD i []∈partL es n.toNat:=by rw [getD_of hlt];exact List.getElem_mem hlt
  obtain ⟨E,hEe⟩:∃ E,E=(partL es n.toNat).getD i []:=⟨_,rfl⟩
  rw [← hEe] at hE
  have hEr:∀ x∈E,0≤x∧x<es.length:=fun x hx=>by
   unfold partL at hE
   obtain ⟨w,_,rfl⟩:=List.mem_map.1 hE
   exact partE_rng hx
  have hEl:E.length≤es.length:=by
   unfold partL at hE
   obtain ⟨w,_,rfl⟩:=List.mem_map.1 hE
   exact filtB_length _ _
  unfold F76.B7
  refine hRG.rowA hlt fun y fy hyA=>?_
  rw [← hEe] at fy
  have hyo:y.oneCell'=true:=ints_one fy.ints
  refine newK_f rfl fun G1 g1 m1 p1=>pif_t hyo (stK_1 p1 (by simp) hyo fun G2 q2 p2=>?_)
  simp only [List.set_cons_zero] at p2
  have l2':G.le G2:=q2.le g1 (Nat.le_refl _)
  have hG2l:=l2'.1
  have oo2:=oo.le l2'
  have hlo:=lt_of_get oo
  have hlx:=lt_of_get oxG
  have hlp:=lt_of_get p2
  have ox2:=oxG.le l2'
  have og2:=ogG.le l2'
  have fy2:=fy.le l2'
  unfold F76.B6
  refine ldI_own og2 rfl (ld1_own og2 rfl (ld1_own p2 rfl ?_))
  have hfv:(Value.func (.func 141) ⟨[]⟩ ⟨[.pointer (some ⟨G.length,0,none⟩),.pointer (some ⟨xb,0,none⟩)]⟩).oneCell'=true:=rfl
  -- the heap without the list that is filled
  have le0:H.le (G2.set ob none):=le_noB (AHeap.le_trans l0G l2') hob0
  have y0:Ints (G2.set ob none:AHeap) y E:=(fresh_oth (G:=(G2.set ob none:AHeap)) fy2 fun b o hb ho=>by
   have:=hyA b hb
   rw [List.getElem?_set_ne (by omega)];exact ho).ints
  have hlen0:(G2.set ob none:AHeap).length=G2.length:=by simp
  have call:∀ pb cb ub:Nat,G2.length≤pb→G2.length≤cb→G2.length≤ub→∀ N,Caller es (G2.set ob none) pb cb ub (.func (.func 141) ⟨[]⟩ ⟨[.pointer (some ⟨G.length,0,none⟩),.pointer (some ⟨xb,0,none⟩)]⟩) (fun b=>b=ob) (ob+1) (fun done A=>∃ o:List Int,Own A ob 2 (LI o)∧o.length=es.length) (fun _=>true) N:=by
   intro pb cb ub h1 h2 h3 N
   refine ⟨fun b o hb=>noB_get hb,by omega,by omega,by omega,fun b e=>by omega,fun done A B ⟨o,hA,hAl⟩ t=>⟨o,t.old _ _ (by omega) (by omega) hA,hAl⟩,fun done c' A hA oc' hl' hJ hd K' hK'=>callV_mk ?_⟩
   obtain ⟨o',oo',hol'⟩:=hJ
   have pA:=hA.2 G.length _ ((List.getElem?_set_ne (show ob≠G.length by omega)).trans p2)
   have xA:=hA.2 xb _ ((List.getElem?_set_ne (show ob≠xb by omega)).trans ox2)
   have yA:=y0.le hA
   apply F141.ac
   unfold F141.B8 F141.B7
   refine asP_mk (ld1_own pA rfl (yA.len ?_))
   unfold F141.L2
   refine ⟨fun z0 z2 z7 z8 z9 B=>.slice (some ⟨cb,0,none⟩) es.length (es.length+1)=z0∧.pointer (some ⟨xb,0,none⟩)=z2∧y=z7∧((E.length:Nat):Int)=z8∧Fnd (fun b=>b=ob) A B∧(∃ o:List Int,Own B ob 2 (LI o)∧o.length=es.length)∧∃ t:Nat,z9=t∧t≤E.length,fun _ _ _ _ z9 _=>E.length-z9.toNat,
    ⟨rfl,rfl,rfl,rfl,.refl,⟨o',oo',hol'⟩,0,rfl,by omega⟩,?_⟩
   rintro z0 z2 z7 z8 z9 B ⟨rfl,rfl,rfl,rfl,fB,⟨ob',hob',hobl⟩,t,rfl,ht⟩
   have hAB:AHeap.le (G2.set ob none) B:=fB.base hA fun b o hb=>noB_get hb
   unfold F141.B6
   refine pif_cases (fun hb=>?_) fun hb=>?_
   ·have htl:t<E.length:=by have:=of_decide_eq_true hb;omega
    have he:=hEr _ (List.getElem_mem htl)
    rw [← getD_of (d:=0) htl] at he
    obtain ⟨e,hee⟩:∃ e:Nat,E.getD t 0=e:=⟨(E.getD t 0).toNat,by omega⟩
    unfold F141.B5
    refine (y0.le hAB).rd (by omega) (by omega) ?_
    rw [Int.toNat_natCast,hee]
    have xB:=fB.own xA (by omega)
    have cB:=fB.own oc' (by omega)
    unfold F141.B4
    refine asP_mk (ld1_own xB rfl (own_idx (by omega) (by omega) (ldI_own cB (n:=c'.getD e 0) (by rw [Int.toNat_natCast];simp [show e<c'.length by omega]) (own_idx (by omega) (by omega) (stK_1 hob' (by simp;omega) rfl fun B2 bt bo=>?_)))))
    rw [Int.toNat_natCast,← List.map_set] at bo
    unfold F141.B3
    rw [wrap_id (by omega) (by omega)]
    refine ⟨⟨rfl,rfl,rfl,rfl,fB.trans ⟨Nat.le_of_eq bt.len.symm,fun b o hb ho=>by rw [bt.same b hb];exact ho⟩,⟨_,bo,by simpa using hobl⟩,t+1,by omega,by omega⟩,by simp;omega⟩
   ·unfold F141.B1
    exact hK' B fB ⟨ob',hob',hobl⟩
  -- the end of a round
  have fin:∀ A:AHeap,Fnd (fun b=>b=ob) G2 A→(∃ o:List Int,Own A ob 2 (LI o)∧o.length=es.length)→F76.B5 K (fun z1 z3 z12 z13 z14 G'=>(H.length=z1∧xb=z3∧x8=z12∧(((partL es n.toNat).length:Nat):Int)=z13∧Fnd (fun b=>b=ob) H5 G'∧(∃ o:List Int,Own G' ob 2 (LI o)∧o.length=es.length)∧∃ i:Nat,z14=i∧i≤(partL es n.toNat).length∧∀ j,j<i→ptL es ((partL es n.toNat).getD j []) (stN es j)≠[])∧(partL es n.toNat).length-z14.toNat<(partL es n.toNat).length-(i:Int).toNat) H.length xb ((ptL es E (stN es i)).any fun _=>true) x8 ((partL es n.toNat).length:Nat) (i:Nat) A:=by
   intro A fA hA
   have fA':=(fG.trans (.le l2')).trans fA
   have l0A:H.le A:=fA'.base l05 fun b o hb=>by have:=lt_of_get hb;omega
   unfold F76.B5
   rw [any_true]
   refine pif_cases (fun hn=>?_) fun hn=>?_
   ·have hnil:ptL es E (stN es i)=[]:=by
     cases hp:ptL es E (stN es i) with
     | nil=>rfl
     | cons a L=>rw [hp] at hn;simp at hn
    unfold F76.B4
    refine k _ A l0A fun K' hK'=>hK' _ ?_
    show (true=true↔_)
    refine ⟨fun _ hc=>?_,fun _=>rfl⟩
    have:=stN_has hg hc hlt
    rw [← hEe] at this
    exact this hnil
   ·have hne:ptL es E (stN es i)≠[]:=fun e=>by rw [e] at hn;simp at hn
    unfold F76.B3
    rw [wrap_id (by omega) (by omega)]
    refine ⟨⟨rfl,rfl,rfl,rfl,fA',hA,i+1,by omega,by omega,fun j hj=>?_⟩,by show (partL es n.toNat).length-((i:Int)+1).toNat<(partL es n.toNat).length-(i:Int).toNat;omega⟩
    by_cases e:j=i
    ·subst e;rw [← hEe];exact hne
    ·exact hall j (by omega)
  by_cases hi0:i=0
  ·have hbt:(((i:Nat):Int)==0)=true:=by rw [hi0];rfl
   rw [hbt]
   have hst:stN es i=nstTo es 3:=by unfold stN;rw [if_pos hi0]
   refine painterN_ok hg (h.le (AHeap.le_trans l0G l2')) hyo hfv fun pb cb ub tP us G3 g3 r0 r1 r2 q3 q4 q5 oP oc ou hU=>?_
   have hg3:=g3.1
   refine startN_ok (done:=[]) (call pb cb ub r0 r1 r2 _) hg (h.le le0) y0 (by omega) hEr (by omega) (by omega) q3 q4 q5 (AHeap.le_trans (noB_le _ _) g3) (by omega) (nst_prp hg (Nat.le_refl _)) hU oP oc ou ⟨o,oo2.le g3,hol⟩ (by simp;exact Nat.le_refl _) fun G4 f4 hJ4=>asB_mk ?_
   have:=fin G4 ((Fnd.le g3).trans f4) hJ4
   rw [hst] at this
   exact this
  ·have hbt:(((i:Nat):Int)==0)=false:=by rw [beq_eq_false_iff_ne];omega
   rw [hbt]
   have hst:stN es i=blank es:=by unfold stN;rw [if_neg hi0]
   refine painterG_ok hg (h.le (AHeap.le_trans l0G l2')) hyo hfv fun pb cb ub tP G3 g3 r0 r1 r2 q3 q4 q5 oP oc ou=>?_
   have hg3:=g3.1
   refine startG_ok (done:=[]) (call pb cb ub r0 r1 r2 _) hg (h.le le0) y0 (by omega) hEr (by omega) (by omega) q3 q4 q5 (AHeap.le_trans (noB_le _ _) g3) (by omega) oP oc ou ⟨o,oo2.le g3,hol⟩ (by simp;exact Nat.le_refl _) fun G4 f4 hJ4=>asB_mk ?_
   have:=fin G4 ((Fnd.le g3).trans f4) hJ4
   rw [hst] at this
   exact this
 ·have hie:i=(partL es n.toNat).length:=by have:=of_decide_eq_false hb;omega
  subst hie
  unfold F76.B1
  refine ld1_own oxG rfl (k _ G l0G fun K' hK'=>hK' _ ?_)
  show (false=true↔_)
  exact ⟨fun h=>absurd h (by simp),fun h=>absurd (stN_all hg hall) h⟩
noncomputable def hasVal (n:Int) (es:List (Int × Int)):Bool:=@decide (IsG n es∧∃ c,IsC es c) (Classical.propDecidable _)
theorem implHas_ok (h:Edges H v es) (hl:es.length≤1048576) (k:∀ G,H.le G→K (.tuple ⟨[.bool (hasVal n es),.int .i64 (if IsG n es then 0 else 1)]⟩) G) :
 AC Tryz.prog T0 19 [.agg ⟨[.int .i64 n,v]⟩] H K:=by
 apply F19.ac
 unfold F19.B5
 refine newK_f (all_iv (edges_one' h)) fun H1 l1 n1' o1=>?_
 unfold F19.B4
 refine ldI_own o1 rfl (ld1_own o1 rfl (graphCode_ok (h.le l1) hl fun H2 l2=>asI_mk ?_))
 have l12:=AHeap.le_trans l1 l2
 have o2:=o1.le l2
 simp only [if_true]
 unfold F19.B3
 by_cases hg:IsG n es
 ·rw [if_pos hg] at k ⊢
  refine pif_f rfl ?_
  unfold F19.B1
  refine ldI_own o2 rfl (ld1_own o2 rfl (first_ok (h.le l12) hg fun w G lG hw=>hw _ fun b hb=>?_))
  have e:hasVal n es=!b:=by
   unfold hasVal
   cases b with
   | true=>
    have:=hb.1 rfl
    simp only [Bool.not_true,decide_eq_false_iff_not]
    exact fun h=>this h.2
   | false=>
    have:∃ c,IsC es c:=Classical.byContradiction fun hn=>by have:=hb.2 hn;cases this
    simp only [Bool.not_false,decide_eq_true_eq]
    exact ⟨hg,this⟩
  rw [← e]
  exact k G (AHeap.le_trans l12 lG)
 ·have e:hasVal n es=false:=by
   unfold hasVal
   rw [decide_eq_false_iff_not]
   exact fun h=>hg h.1
  rw [if_neg hg] at k ⊢
  rw [e] at k
  refine pif_t rfl ?_
  unfold F19.B2
  exact k H2 l12
end Go.Proofs
namespace Go.Proofs
open Go.Abs

variable {H G:AHeap} {v u w:Value} {es fs:List (Int × Int)} {K:Value→AHeap→Prop} {n:Int}

theorem has_iff' (hg:IsG n es):hasVal n es=true↔∃ c,IsC es c:=by
 unfold hasVal
 exact ⟨fun h=>(@of_decide_eq_true _ (Classical.propDecidable _) h).2,fun h=>@decide_eq_true _ (Classical.propDecidable _) ⟨hg,h⟩⟩
theorem ccn_has (hg:IsG n es):decide (ccnVal n es>0)=hasVal n es:=by
 rw [Bool.eq_iff_iff,has_iff' hg,decide_eq_true_iff,← colN_pos hg]
 unfold ccnVal
 rw [if_pos hg]
 omega
theorem od_has (h:bmCode n es=0):(odVal n es==0)=hasVal n es:=by
 obtain ⟨hg,_⟩:=bm_zero h
 obtain ⟨_,_,_,_,hz⟩:=bm_facts h
 rw [Bool.eq_iff_iff,has_iff' hg,beq_iff_eq,hz]
theorem rs_has (h:smCode n es 12=0):(rsN n es==0)=hasVal n es:=by
 have hg:=smCode_zero h
 rw [Bool.eq_iff_iff,has_iff' hg,beq_iff_eq,rsN_zero h]
end Go.Proofs
namespace Go.Abs
section
variable {T:TT} {H:AHeap} {n:Nat} {t:TypeId} {cs:List Value}
def isU8 (o:Option TI):Bool:=match o with|some ⟨.int .u8,_,_,_⟩=>true|_=>false
theorem AT_u8 (h:isU8 (T t)=true) (a:AT T H n t cs):∃ x,cs=[.int .u8 x]∧0≤x∧x≤255:=by
 cases n with
 | zero=>exact a.elim
 | succ n=>
  unfold AT at a
  split at a
  ·rename_i ti hti
   rw [hti] at h
   obtain ⟨d,_,_,_⟩:=ti
   cases d <;> first|(simp [isU8] at h;done)|skip
   rename_i k
   cases k <;> first|(simp [isU8] at h;done)|skip
   obtain ⟨x,rfl,hx⟩:=a
   have:=Go.bounds_u8 hx
   exact ⟨x,rfl,this.1,this.2⟩
  ·exact a.elim
theorem chunks_u8 {e:TypeId} (he:isU8 (T e)=true) (hz:sz T e=1):∀ (len:Nat) (xs:List Value),Chunked T (AT T H n) (List.replicate len e) xs→∃ l:List Int,l.length=len∧xs=l.map (Value.int .u8)∧∀ x∈l,0≤x∧x≤255
 | 0,xs,h=>⟨[],rfl,h,by simp⟩
 | len+1,xs,h=>by
  rw [List.replicate_succ] at h
  obtain ⟨h1,h2,h3⟩:=h
  rw [hz] at h1 h2 h3
  obtain ⟨x,hx,hr⟩:=AT_u8 he h2
  obtain ⟨l,hl,he,hb⟩:=chunks_u8 he hz len _ h3
  refine ⟨x::l,by simp [hl],?_,?_⟩
  ·cases xs with
   | nil=>simp at h1
   | cons y ys=>simp at hx he ⊢;exact ⟨hx,he⟩
  ·intro y hy
   rcases List.mem_cons.1 hy with rfl|hy
   ·exact hr
   ·exact hb y hy
end
end Go.Abs
namespace Go.Proofs
open Go.Abs

variable {H G Hb:AHeap} {v u f w:Value} {l m:List Int} {K:Value→AHeap→Prop} {bs:Nat}

def Byts (H:AHeap) (v:Value) (l:List Int):Prop:=(∀ x∈l,0≤x∧x≤255)∧((v=.slice none 0 0∧l=[])∨∃ a c,v=.slice (some a) l.length c∧(l=[]∨(a.spot=none∧∀ (i:Nat) x,l[i]?=some x→H.cell a.block (a.off+i)=some (.int .u8 x))))
theorem av_bytes (h:AV T0 H 22 v):∃ l,Byts H v l∧l.length≤9223372036854775807:=by
 obtain ⟨n,cs,a,rfl⟩:=AV_flat h (by kernel_rfl)
 rcases AT_slice (e:=5) (by kernel_rfl) a with rfl|rfl|⟨m,b,len,xs,rfl,h2,h3,h4⟩
 ·exact ⟨[],⟨by simp,.inl ⟨rfl,rfl⟩⟩,by decide⟩
 ·exact ⟨[],⟨by simp,.inr ⟨_,_,rfl,.inl rfl⟩⟩,by decide⟩
 ·obtain ⟨l,rfl,rfl,hb⟩:=chunks_u8 (by kernel_rfl) (by kernel_rfl) len xs h4
  exact ⟨l,⟨hb,.inr ⟨_,_,rfl,.inr ⟨rfl,fun i x hx=>by rw [cell_own h3];simp [hx]⟩⟩⟩,by simpa [maxLen] using h2⟩
theorem Byts.le (h:Byts H v l) (hl:H.le G):Byts G v l:=by
 refine ⟨h.1,?_⟩
 rcases h.2 with h|⟨a,c,h1,h2|⟨h2,h3⟩⟩
 ·exact .inl h
 ·exact .inr ⟨a,c,h1,.inl h2⟩
 ·exact .inr ⟨a,c,h1,.inr ⟨h2,fun i x hx=>AHeap.cell_le hl (h3 i x hx)⟩⟩
theorem Byts.one (h:Byts H v l):v.oneCell'=true:=by
 rcases h.2 with ⟨rfl,_⟩|⟨a,c,rfl,_⟩ <;> rfl
theorem Byts.len (h:Byts H v l) {K:Nat→Prop} (k:K l.length):lenK v K:=by
 rcases h.2 with ⟨rfl,rfl⟩|⟨a,c,rfl,_⟩
 ·exact k
 ·exact k
theorem Byts.rd (h:Byts H v l) {i:Int} (h0:0≤i) (h1:i<l.length) {K:Int→Prop} (k:∀ x,0≤x→x≤255→K x):idxK v i 1 (fun b o=>ldI .u8 H b o K):=by
 rcases h.2 with ⟨rfl,rfl⟩|⟨a,c,rfl,h2|⟨h2,h3⟩⟩
 ·simp at h1;omega
 ·subst h2;simp at h1;omega
 ·obtain ⟨b,o,sp⟩:=a
  simp only at h2 h3
  subst h2
  have hi:i.toNat<l.length:=by omega
  have hx:=h3 i.toNat l[i.toNat] (List.getElem?_eq_getElem hi)
  have hr:=h.1 l[i.toNat] (List.getElem_mem hi)
  exact ⟨h0,h1,ldI_mk (by rw [Nat.mul_one];exact hx) (k _ hr.1 hr.2)⟩
end Go.Proofs
namespace Go.Proofs
open Go.Abs

variable {H G Hb:AHeap} {v u f w:Value} {l m:List Int} {K:Value→AHeap→Prop} {bs:Nat}

def Dic (Hb:AHeap) (bs:Nat) (G:AHeap):Prop:=Hb.le G∧Hb.length≤bs∧∃ cv l a h,Byts Hb cv l∧l.length≤4096∧Own G bs 67 [cv,.int .i64 a,.int .u64 h]∧0≤a∧a≤l.length
theorem Dic.le (h:Dic Hb bs H) (hl:H.le G):Dic Hb bs G:=by
 obtain ⟨h1,h2,cv,l,a,x,h3,h4,h5,h6,h7⟩:=h
 exact ⟨AHeap.le_trans h1 hl,h2,cv,l,a,x,h3,h4,h5.le hl,h6,h7⟩
theorem Dic.but {b:Nat} (h:Dic Hb bs H) (hb:But b H G) (hne:bs≠b) (hl:Hb.length≤b):Dic Hb bs G:=by
 obtain ⟨h1,h2,cv,l,a,x,h3,h4,h5,h6,h7⟩:=h
 exact ⟨hb.le h1 hl,h2,cv,l,a,x,h3,h4,hb.own h5 hne,h6,h7⟩
theorem Dic.put {a' h':Int} (hs:Hb.le H) (h2:Hb.length≤bs) {cv:Value} (hb:Byts Hb cv l) (h4:l.length≤4096) (b2:But bs H G) (o2:Own G bs 67 [cv,.int .i64 a',.int .u64 h']) (h6:0≤a') (h7:a'≤l.length):Dic Hb bs G:=
 ⟨b2.le hs h2,h2,cv,l,a',h',hb,h4,o2,h6,h7⟩
theorem below_ok {n:Int} (hs:Dic Hb bs H) (hn:1≤n) (k:∀ r G,Kb bs H G→Dic Hb bs G→0≤r→r<n→K (.int .i64 r) G):AC Tryz.prog T0 9 [.pointer (some ⟨bs,0,none⟩),.int .i64 n] H K:=by
 obtain ⟨h1,h2,cv,l,a,x,hB,h4,ho,h6,h7⟩:=id hs
 apply F9.ac
 unfold F9.B9 F9.B8
 refine pif_f (decide_eq_false (by omega)) ?_
 have hn0:n≠0:=by omega
 unfold F9.B6
 refine nilP_mk (asP_mk (ldI_own ho rfl (nilP_mk (asP_mk (stK_1 ho (by simp) rfl fun G1 b1 o1=>?_)))))
 obtain ⟨h',hh'⟩:∃ h',h'=IntKind.u64.wrap (IntKind.u64.wrap (x*6364136223846793005)+1442695040888963407):=⟨_,rfl⟩
 rw [← hh'] at o1
 have o1:Own G1 bs 67 [cv,.int .i64 a,.int .u64 h']:=o1
 have s1:Dic Hb bs G1:=Dic.put h1 h2 hB h4 b1 o1 h6 h7
 have hBG:=hB.le s1.1
 unfold F9.B5
 refine nilP_mk (asP_mk (ldI_own o1 rfl ⟨by decide,?_⟩))
 have hx:∃ y:Nat,y<2^24∧IntKind.i64.wrap (IntKind.u64.wrap (BitVec.ofInt 64 (Int.fdiv h' (2^(min (Int.toNat 33) 64)))&&&BitVec.ofInt 64 16777215).toNat)=(y:Int):=by
  have hlt:(BitVec.ofInt 64 (Int.fdiv h' (2^(min (Int.toNat 33) 64)))&&&BitVec.ofInt 64 16777215).toNat<2^24:=by
   rw [BitVec.toNat_and]
   exact Nat.lt_of_le_of_lt Nat.and_le_right (by decide)
  refine ⟨_,hlt,?_⟩
  rw [u64_nat (by omega),wrap_id (by omega) (by omega)]
 obtain ⟨y,hy,hyx⟩:=hx
 have fin:∀ (x5:Int) G2,0≤x5→Kb bs H G2→Dic Hb bs G2→F9.B1 K n x5 G2:=fun x5 G2 h0 kb s2=>by
  unfold F9.B1
  refine pif_t (by simpa using hn0) ?_
  refine k _ G2 kb s2 ?_ ?_
  ·exact Int.tmod_nonneg _ h0
  ·exact Int.tmod_lt_of_pos _ (by omega)
 unfold F9.B4
 refine nilP_mk (asP_mk (ldI_own o1 rfl (nilP_mk (asP_mk (ld1_own o1 rfl (hBG.len (pif_cases (fun hc=>?_) fun hc=>?_)))))))
 ·have hal:a<l.length:=of_decide_eq_true hc
  unfold F9.B3
  refine nilP_mk (asP_mk (ld1_own o1 rfl (nilP_mk (asP_mk (ldI_own o1 rfl (hBG.rd h6 hal fun z z0 z1=>?_))))))
  unfold F9.B2
  refine nilP_mk (asP_mk (ldI_own o1 rfl (nilP_mk (asP_mk (stK_1 o1 (by simp) rfl fun G2 b2 o2=>?_)))))
  rw [wrap_id (x:=a+1) (by omega) (by omega)] at o2
  refine fin _ G2 ?_ (b1.kb.trans b2.kb) (Dic.put s1.1 h2 hB h4 b2 o2 (by omega) (by omega))
  show 0≤IntKind.i64.wrap (IntKind.i64.wrap _+IntKind.i64.wrap z)
  rw [hyx,wrap_id (x:=z) (by omega) (by omega),wrap_id (by omega) (by omega)];omega
 ·refine fin _ G1 ?_ b1.kb s1
  rw [hyx];omega
theorem roll_ok {n:Int} (hb:Byts H v l) (hl:l.length≤4096) (k:∀ G,Dic H H.length G→K (.pointer (some ⟨H.length,0,none⟩)) G):AC Tryz.prog T0 8 [v,.int .u64 n] H K:=by
 apply F8.ac
 unfold F8.B8 F8.B7
 refine hb.len (pif_t hb.one (newK_f (by rw [List.all_cons,hb.one];rfl) fun H1 l1 n1 o1=>?_))
 unfold F8.B6 F8.L2
 refine ⟨fun x0 x5 x6 G=>v=x0∧.pointer (some ⟨H.length,0,none⟩)=x5∧H.le G∧∃ (i:Nat) (h:Int),x6=i∧i≤l.length∧Own G H.length 67 [v,.int .i64 0,.int .u64 h],fun _ _ x6 _=>l.length-x6.toNat,⟨rfl,rfl,l1,0,_,rfl,by omega,o1⟩,?_⟩
 rintro x0 x5 x6 G ⟨rfl,rfl,lG,i,h,rfl,hi,o⟩
 have hG:=hb.le lG
 unfold F8.B5
 refine hG.len (pif_cases (fun hc=>?_) fun hc=>?_)
 ·have hil:i<l.length:=by have:=of_decide_eq_true hc;omega
  unfold F8.B4
  refine nilP_mk (asP_mk (ldI_own o rfl (hG.rd (by omega) (by omega) fun z z0 z1=>nilP_mk (asP_mk (stK_1 o (by simp) rfl fun G2 b2 o2=>?_)))))
  unfold F8.B3
  rw [wrap_id (x:=(i:Int)+1) (by omega) (by omega)]
  exact ⟨⟨rfl,rfl,b2.le lG (Nat.le_refl _),i+1,_,by omega,by omega,o2⟩,by simp;omega⟩
 ·unfold F8.B1
  exact k G ⟨lG,Nat.le_refl _,v,l,0,h,hb,hl,o,by omega,by omega⟩
end Go.Proofs
namespace Go.Proofs
open Go.Abs

variable {es fs:List (Int × Int)} {n:Nat} {e f:Nat} {R S:List (Nat × Nat)}

def prN (t:Nat→Nat) (p:Nat × Nat):Nat × Nat:=if t p.2<t p.1 then (t p.2,t p.1) else (t p.1,t p.2)
def eqP (p q:Nat × Nat):Bool:=p.1==q.1&&p.2==q.2
theorem eqP_iff {p q:Nat × Nat}:eqP p q=true↔p=q:=by
 unfold eqP
 rw [Bool.and_eq_true,beq_iff_eq,beq_iff_eq]
 constructor
 ·rintro ⟨h1,h2⟩;exact Prod.ext h1 h2
 ·rintro rfl;exact ⟨rfl,rfl⟩
def inP (p:Nat × Nat) (l:List (Nat × Nat)):Bool:=l.any (eqP p)
theorem inP_iff {p:Nat × Nat} {l:List (Nat × Nat)}:inP p l=true↔p∈l:=by
 unfold inP
 rw [List.any_eq_true]
 constructor
 ·rintro ⟨q,hq,h⟩;rw [eqP_iff.1 h];exact hq
 ·exact fun h=>⟨p,h,eqP_iff.2 rfl⟩
def brR (n:Nat) (R:List (Nat × Nat)) (r s:Nat × Nat):List (Nat × Nat):=(n,n+1)::(r.1,n)::(r.2,n)::(s.1,n+1)::(s.2,n+1)::R.filter fun x=>!eqP x r&&!eqP x s
def isoB (n:Nat) (R S:List (Nat × Nat)) (t:List Nat):Bool:=
 S.all (fun p=>inP (prN (fun a=>t.getD a 0) p) R)&&R.all (fun q=>S.any fun p=>eqP q (prN (fun a=>t.getD a 0) p))&&(List.range n).all (fun a=>decide (t.getD a 0<n)) &&
 (List.range n).all (fun a=>(List.range n).all fun b=>a==b||t.getD a 0 != t.getD b 0)&&(List.range n).all fun v=>(List.range n).any fun a=>t.getD a 0==v
def prs (R:List (Nat × Nat)):List ((Nat × Nat) × (Nat × Nat)):=R.flatMap fun r=>(R.filter fun s=>!eqP r s).map fun s=>(r,s)
theorem mem_prs {r s:Nat × Nat} (hr:r∈R) (hs:s∈R) (h:r≠s):(r,s)∈prs R:=by
 unfold prs
 rw [List.mem_flatMap]
 refine ⟨r,hr,List.mem_map.2 ⟨s,List.mem_filter.2 ⟨hs,?_⟩,rfl⟩⟩
 rw [Bool.not_eq_true',← Bool.not_eq_true,eqP_iff]
 exact h
def chk (n:Nat) (R:List (Nat × Nat)) (Ss:List (List (Nat × Nat))) (tab:List (Nat × List Nat)):Bool:=
 (prs R).length==tab.length&&((prs R).zip tab).all fun x=>decide (x.2.1<Ss.length)&&isoB (n+2) (brR n R x.1.1 x.1.2) (Ss.getD x.2.1 []) x.2.2
theorem chk_get {Ss:List (List (Nat × Nat))} {tab:List (Nat × List Nat)} (h:chk n R Ss tab=true) {r s:Nat × Nat} (hr:r∈R) (hs:s∈R) (hrs:r≠s):∃ T∈Ss,∃ t,isoB (n+2) (brR n R r s) T t=true:=by
 unfold chk at h
 rw [Bool.and_eq_true,beq_iff_eq,List.all_eq_true] at h
 obtain ⟨i,hi,e⟩:=List.getElem_of_mem (mem_prs hr hs hrs)
 have hz:i<((prs R).zip tab).length:=by rw [List.length_zip];omega
 have:=h.2 _ (List.getElem_mem hz)
 rw [List.getElem_zip,Bool.and_eq_true,decide_eq_true_iff,e] at this
 refine ⟨_,?_,_,this.2⟩
 rw [getD_of this.1]
 exact List.getElem_mem _
def onP (v:Nat) (p:Nat × Nat):Bool:=p.1==v||p.2==v
def pmB (n:Nat) (R m:List (Nat × Nat)):Bool:=m.all (fun p=>inP p R)&&(List.range n).all fun v=>(m.filter (onP v)).length==1
def freeP (m:List (Nat × Nat)) (v:Nat):Bool:=m.all fun p=>!onP v p
def pmF (n:Nat) (R:List (Nat × Nat)):Nat→List (Nat × Nat)→List (List (Nat × Nat))
 | 0,m=>[m]
 | k+1,m=>match (List.range n).find? (freeP m) with
  | none=>[m]
  | some v=>R.flatMap fun p=>if onP v p&&freeP m p.1&&freeP m p.2 then pmF n R k (p::m) else []
def difB (m l:List (Nat × Nat)):Bool:=m.any fun p=>!inP p l
def okR (n:Nat) (R:List (Nat × Nat)):Bool:=R.all (fun p=>decide (p.1<p.2)&&decide (p.2<n))&&R.length*2==3*n&&(List.range R.length).all fun i=>(List.range R.length).all fun j=>i==j||!eqP (R.getD i (0,0)) (R.getD j (0,0))
def has3 (n:Nat) (R:List (Nat × Nat)):Bool:=okR n R&&match pmF n R n [] with
 | a::b::c::_=>pmB n R a&&pmB n R b&&pmB n R c&&difB a b&&difB a c&&difB b c
 | _=>false
def rp40:List (Nat × Nat):=[(0,1),(0,2),(0,3),(1,2),(1,3),(2,3)]
def rp60:List (Nat × Nat):=[(0,3),(0,4),(0,5),(1,2),(1,3),(1,4),(2,3),(2,5),(4,5)]
def rp61:List (Nat × Nat):=[(0,2),(0,3),(0,4),(1,2),(1,3),(1,4),(2,5),(3,5),(4,5)]
def rp80:List (Nat × Nat):=[(0,5),(0,6),(0,7),(1,2),(1,3),(1,4),(2,3),(2,5),(3,6),(4,5),(4,7),(6,7)]
def rp81:List (Nat × Nat):=[(0,4),(0,5),(0,6),(1,3),(1,4),(1,7),(2,3),(2,5),(2,7),(3,6),(4,5),(6,7)]
def rp82:List (Nat × Nat):=[(0,3),(0,5),(0,6),(1,3),(1,4),(1,7),(2,3),(2,5),(2,7),(4,5),(4,6),(6,7)]
def rp83:List (Nat × Nat):=[(0,3),(0,5),(0,6),(1,2),(1,4),(1,7),(2,3),(2,5),(3,7),(4,5),(4,6),(6,7)]
def rps4:List (List (Nat × Nat)):=[rp40]
def rps6:List (List (Nat × Nat)):=[rp60,rp61]
def rps8:List (List (Nat × Nat)):=[rp80,rp81,rp82,rp83]
def tb40:List (Nat × List Nat):=[(0,[0,1,2,3,4,5]),(0,[0,1,3,2,4,5]),(0,[0,1,5,4,3,2]),(0,[0,1,5,4,2,3]),(1,[0,1,2,3,4,5]),(0,[0,1,2,3,5,4]),(0,[0,2,3,1,4,5]),(0,[0,2,5,4,3,1]),(1,[0,2,1,3,4,5]),(0,[0,2,5,4,1,3]),(0,[0,1,3,2,5,4]),(0,[0,2,3,1,5,4]),(1,[0,3,1,2,4,5]),(0,[0,3,5,4,2,1]),(0,[0,3,5,4,1,2]),(0,[0,1,4,5,3,2]),(0,[0,2,4,5,3,1]),(1,[0,3,1,2,5,4]),(0,[0,4,5,1,2,3]),(0,[0,4,5,2,1,3]),(0,[0,1,4,5,2,3]),(1,[0,2,1,3,5,4]),(0,[0,3,4,5,2,1]),(0,[0,4,5,1,3,2]),(0,[0,4,5,3,1,2]),(1,[0,1,2,3,5,4]),(0,[0,2,4,5,1,3]),(0,[0,3,4,5,1,2]),(0,[0,4,5,2,3,1]),(0,[0,4,5,3,2,1])]
theorem ck40:chk 4 rp40 rps6 tb40=true:=by decide +kernel
def tb60:List (Nat × List Nat):=[(0,[0,1,2,3,4,5,6,7]),(0,[0,2,1,3,5,4,6,7]),(1,[0,1,2,3,4,5,6,7]),(0,[3,4,5,0,1,2,6,7]),(0,[0,1,3,2,7,6,5,4]),(0,[3,5,4,0,2,1,6,7]),(0,[0,2,3,1,7,6,4,5]),(1,[1,5,6,0,2,3,4,7]),(0,[0,1,2,3,4,5,7,6]),(0,[1,7,6,0,5,4,3,2]),(2,[0,1,2,3,4,5,6,7]),(3,[0,1,2,3,4,5,6,7]),(0,[2,6,4,7,0,5,1,3]),(2,[0,1,7,3,4,6,5,2]),(1,[1,0,7,5,3,2,4,6]),(0,[2,6,7,4,0,5,1,3]),(0,[0,2,1,3,5,4,7,6]),(0,[1,6,7,0,5,4,3,2]),(2,[0,2,1,3,5,4,6,7]),(2,[0,1,5,4,7,6,3,2]),(1,[1,0,5,4,3,2,7,6]),(3,[0,2,1,3,5,4,6,7]),(0,[1,6,5,7,0,4,2,3]),(0,[1,6,7,5,0,4,2,3]),(1,[0,1,2,3,4,5,7,6]),(2,[0,1,2,3,4,5,7,6]),(2,[0,2,1,3,5,4,7,6]),(0,[0,6,7,1,2,3,4,5]),(0,[0,6,1,7,2,3,4,5]),(0,[0,6,7,2,1,3,5,4]),(0,[0,6,2,7,1,3,5,4]),(3,[0,6,1,3,7,4,5,2]),(0,[3,4,5,0,1,2,7,6]),(3,[0,1,2,3,4,5,7,6]),(2,[0,1,5,4,6,7,3,2]),(0,[0,7,6,1,2,3,4,5]),(0,[0,1,6,7,2,3,4,5]),(0,[4,7,6,3,2,1,0,5]),(1,[0,1,7,2,4,5,3,6]),(2,[0,1,7,4,2,5,3,6]),(0,[0,1,3,2,6,7,5,4]),(0,[2,7,4,6,0,5,1,3]),(1,[1,0,5,4,3,2,6,7]),(0,[0,7,1,6,2,3,4,5]),(0,[0,1,7,6,2,3,4,5]),(1,[0,2,6,1,5,4,3,7]),(0,[1,5,4,0,7,6,3,2]),(0,[2,4,7,6,0,5,1,3]),(0,[3,5,4,0,2,1,7,6]),(2,[0,1,6,3,4,7,5,2]),(3,[0,2,1,3,5,4,7,6]),(0,[0,7,6,2,1,3,5,4]),(0,[4,6,7,3,2,1,0,5]),(1,[0,2,7,1,5,4,3,6]),(0,[0,2,6,7,1,3,5,4]),(2,[0,2,7,5,1,4,3,6]),(0,[0,2,3,1,6,7,4,5]),(1,[1,0,6,5,3,2,4,7]),(0,[1,7,5,6,0,4,2,3]),(0,[0,7,2,6,1,3,5,4]),(1,[0,1,6,2,4,5,3,7]),(0,[1,5,4,0,6,7,3,2]),(0,[0,2,7,6,1,3,5,4]),(0,[1,5,7,6,0,4,2,3]),(1,[1,5,7,0,2,3,4,6]),(0,[2,7,6,4,0,5,1,3]),(0,[1,7,6,5,0,4,2,3]),(3,[0,7,1,3,6,4,5,2]),(2,[0,1,6,4,2,5,3,7]),(0,[2,4,6,7,0,5,1,3]),(2,[0,2,6,5,1,4,3,7]),(0,[1,5,6,7,0,4,2,3])]
theorem ck60:chk 6 rp60 rps8 tb60=true:=by decide +kernel
def tb61:List (Nat × List Nat):=[(1,[0,2,3,1,6,7,4,5]),(1,[0,2,4,1,6,7,3,5]),(1,[2,0,1,3,6,7,5,4]),(2,[0,1,5,4,7,3,6,2]),(2,[0,1,5,3,7,4,6,2]),(1,[2,0,5,3,6,7,1,4]),(2,[0,2,7,6,1,3,4,5]),(2,[0,2,7,6,1,4,3,5]),(1,[0,2,3,1,7,6,4,5]),(1,[0,3,4,1,6,7,2,5]),(2,[0,1,5,4,7,2,6,3]),(1,[3,0,1,2,6,7,5,4]),(2,[0,1,5,2,7,4,6,3]),(2,[0,3,7,6,1,2,4,5]),(1,[3,0,5,2,6,7,1,4]),(2,[0,3,7,6,1,4,2,5]),(1,[0,2,4,1,7,6,3,5]),(1,[0,3,4,1,7,6,2,5]),(2,[0,1,5,3,7,2,6,4]),(2,[0,1,5,2,7,3,6,4]),(1,[4,0,1,2,6,7,5,3]),(2,[0,4,7,6,1,2,3,5]),(2,[0,4,7,6,1,3,2,5]),(1,[4,0,5,2,6,7,1,3]),(1,[2,0,1,3,7,6,5,4]),(2,[0,1,5,4,6,2,7,3]),(2,[0,1,5,3,6,2,7,4]),(1,[1,2,3,0,6,7,4,5]),(1,[1,2,4,0,6,7,3,5]),(1,[2,1,5,3,6,7,0,4]),(2,[0,6,5,2,1,4,3,7]),(2,[0,6,5,2,1,3,4,7]),(2,[0,1,5,4,6,3,7,2]),(1,[3,0,1,2,7,6,5,4]),(2,[0,1,5,2,6,3,7,4]),(1,[1,2,3,0,7,6,4,5]),(1,[1,3,4,0,6,7,2,5]),(2,[0,6,5,3,1,4,2,7]),(1,[3,1,5,2,6,7,0,4]),(2,[0,6,5,3,1,2,4,7]),(2,[0,1,5,3,6,4,7,2]),(2,[0,1,5,2,6,4,7,3]),(1,[4,0,1,2,7,6,5,3]),(1,[1,2,4,0,7,6,3,5]),(1,[1,3,4,0,7,6,2,5]),(2,[0,6,5,4,1,3,2,7]),(2,[0,6,5,4,1,2,3,7]),(1,[4,1,5,2,6,7,0,3]),(1,[2,0,5,3,7,6,1,4]),(2,[0,3,6,7,1,2,4,5]),(2,[0,4,6,7,1,2,3,5]),(1,[2,1,5,3,7,6,0,4]),(2,[0,6,1,2,5,4,3,7]),(2,[0,6,1,2,5,3,4,7]),(1,[5,2,3,0,6,7,4,1]),(1,[5,2,4,0,6,7,3,1]),(2,[0,2,6,7,1,3,4,5]),(1,[3,0,5,2,7,6,1,4]),(2,[0,4,6,7,1,3,2,5]),(2,[0,6,1,3,5,4,2,7]),(1,[3,1,5,2,7,6,0,4]),(2,[0,6,1,3,5,2,4,7]),(1,[5,2,3,0,7,6,4,1]),(1,[5,3,4,0,6,7,2,1]),(2,[0,2,6,7,1,4,3,5]),(2,[0,3,6,7,1,4,2,5]),(1,[4,0,5,2,7,6,1,3]),(2,[0,6,1,4,5,3,2,7]),(2,[0,6,1,4,5,2,3,7]),(1,[4,1,5,2,7,6,0,3]),(1,[5,2,4,0,7,6,3,1]),(1,[5,3,4,0,7,6,2,1])]
theorem ck61:chk 6 rp61 rps8 tb61=true:=by decide +kernel
theorem ok_all:(rps4.all (okR 4)&&rps6.all (okR 6)&&rps8.all (okR 8))=true:=by decide +kernel
theorem three_all:(rps4.all (has3 4)&&rps6.all (has3 6)&&rps8.all (has3 8))=true:=by decide +kernel
theorem ten_0:((prs rp80).all fun x=>has3 10 (brR 8 rp80 x.1 x.2))=true:=by decide +kernel
theorem ten_1:((prs rp81).all fun x=>has3 10 (brR 8 rp81 x.1 x.2))=true:=by decide +kernel
theorem ten_2:((prs rp82).all fun x=>has3 10 (brR 8 rp82 x.1 x.2))=true:=by decide +kernel
theorem ten_3:((prs rp83).all fun x=>has3 10 (brR 8 rp83 x.1 x.2))=true:=by decide +kernel
end Go.Proofs
namespace Go.Proofs
open Go.Abs

variable {es fs:List (Int × Int)} {n:Nat} {e f:Nat} {R S:List (Nat × Nat)}
def prE (t:Nat→Nat) (p:Nat × Nat):Int × Int:=nrmE ((t p.1:Int),(t p.2:Int))
theorem nrmE_lt {a b:Int} (h:a<b):nrmE (a,b)=(a,b):=by
 unfold nrmE
 show ((if b<a then b else a),(if b>a then b else a))=(a,b)
 rw [if_neg (by omega),if_pos (by omega)]
theorem nrmE_swap (a b:Int):nrmE (a,b)=nrmE (b,a):=by
 unfold nrmE
 show ((if b<a then b else a),(if b>a then b else a))=((if a<b then a else b),(if a>b then a else b))
 refine Prod.ext ?_ ?_
 ·show (if b<a then b else a)=(if a<b then a else b)
  split <;> split <;> omega
 ·show (if b>a then b else a)=(if a>b then a else b)
  split <;> split <;> omega
theorem nrmE_cases (a b:Int):nrmE (a,b)=(a,b)∨nrmE (a,b)=(b,a):=by
 by_cases h:a<b
 ·exact .inl (nrmE_lt h)
 ·by_cases h2:b<a
  ·right;rw [nrmE_swap,nrmE_lt h2]
  ·left
   obtain rfl:a=b:=by omega
   unfold nrmE
   simp
theorem prE_prN (t u:Nat→Nat) (p:Nat × Nat):prE t (prN u p)=prE (fun a=>t (u a)) p:=by
 unfold prN
 split
 ·unfold prE;exact nrmE_swap _ _
 ·rfl
theorem prE_congr {t u:Nat→Nat} {p:Nat × Nat} (h1:t p.1=u p.1) (h2:t p.2=u p.2):prE t p=prE u p:=by unfold prE;rw [h1,h2]
structure Core (t:Nat→Nat) (n:Nat) (es:List (Int × Int)) (R:List (Nat × Nat)):Prop where
 lt:∀ a,a<n→t a<n
 inj:∀ a b,a<n→b<n→t a=t b→a=b
 sur:∀ v,v<n→∃ a,a<n∧t a=v
 out:∀ x∈es,∃ p∈R,x=prE t p
 inn:∀ p∈R,prE t p∈es
 up:∀ p∈R,p.1<p.2∧p.2<n
variable {t:Nat→Nat}
theorem Core.isOn (h:Core t n es R) {p:Nat × Nat} (hp:p∈R) {a:Nat} (ha:a<n):on (prE t p) (t a:Int)=true↔p.1=a∨p.2=a:=by
 have hu:=h.up p hp
 have key:on (prE t p) (t a:Int)=true↔t a=t p.1∨t a=t p.2:=by
  unfold prE
  rcases nrmE_cases (t p.1:Int) (t p.2:Int) with e|e <;> rw [e,on_ab] <;> omega
 rw [key]
 constructor
 ·rintro (e|e)
  ·exact .inl (h.inj _ _ ha (by omega) e).symm
  ·exact .inr (h.inj _ _ ha hu.2 e).symm
 ·rintro (rfl|rfl)
  ·exact .inl rfl
  ·exact .inr rfl
theorem Core.one (h:Core t n es R) {p q:Nat × Nat} (hp:p∈R) (hq:q∈R) (e:prE t p=prE t q):p=q:=by
 have hu:=h.up p hp
 have hv:=h.up q hq
 have h1:=(h.isOn hq (a:=p.1) (by omega)).1 (by rw [← e];exact (h.isOn hp (by omega)).2 (.inl rfl))
 have h2:=(h.isOn hq (a:=p.2) (by omega)).1 (by rw [← e];exact (h.isOn hp (by omega)).2 (.inr rfl))
 exact Prod.ext (by omega) (by omega)
theorem nodup_of_le {α:Type} [BEq α] [LawfulBEq α]:∀ {m l:List α},l.Nodup→(∀ x∈l,x∈m)→m.length≤l.length→m.Nodup
 | [],_,_,_,_=>List.nodup_nil
 | a::m,l,hl,hs,hle=>by
  rw [List.length_cons] at hle
  rw [List.nodup_cons]
  by_cases ha:a∈m
  ·have:=nodup_subG hl (m:=m) fun x hx=>by
    rcases List.mem_cons.1 (hs x hx) with rfl|h
    ·exact ha
    ·exact h
   omega
  ·refine ⟨ha,nodup_of_le (l:=l.erase a) (hl.erase a) (fun x hx=>?_) ?_⟩
   ·have hm:=List.mem_of_mem_erase hx
    rcases List.mem_cons.1 (hs x hm) with rfl|h
    ·exact absurd hx (List.Nodup.not_mem_erase hl)
    ·exact h
   ·by_cases hal:a∈l
    ·rw [List.length_erase_of_mem hal];omega
    ·rw [List.erase_of_not_mem hal];omega
theorem okR_all (h:okR n R=true):((∀ p∈R,p.1<p.2∧p.2<n)∧R.length*2=3*n)∧∀ i,i<R.length→∀ j,j<R.length→i=j∨eqP (R.getD i (0,0)) (R.getD j (0,0))=false:=by
 unfold okR at h
 simp only [Bool.and_eq_true,List.all_eq_true,beq_iff_eq,List.mem_range,Bool.or_eq_true,Bool.not_eq_true',decide_eq_true_eq] at h
 exact h
theorem okR_up (h:okR n R=true) {p:Nat × Nat} (hp:p∈R):p.1<p.2∧p.2<n:=(okR_all h).1.1 p hp
theorem okR_nodup (h:okR n R=true):R.Nodup∧R.length*2=3*n:=by
 have h:=okR_all h
 refine ⟨?_,h.1.2⟩
 unfold List.Nodup
 rw [List.pairwise_iff_getElem]
 intro i j hi hj hij e
 rcases h.2 i hi j hj with h|h
 ·omega
 ·rw [← Bool.not_eq_true,eqP_iff] at h
  exact h (by rw [getD_of hi,getD_of hj];exact e)
theorem Core.nodup (h:Core t n es R) (hg:IsG n es) (hR:okR n R=true):es.Nodup:=by
 obtain ⟨h1,h2⟩:=okR_nodup hR
 refine nodup_of_le (l:=R.map (prE t)) ?_ (fun x hx=>?_) ?_
 ·unfold List.Nodup at h1 ⊢
  rw [List.pairwise_map]
  exact h1.imp_of_mem fun {a b} ha hb hn e=>hn (h.one ha hb e)
 ·obtain ⟨p,hp,rfl⟩:=List.mem_map.1 hx
  exact h.inn p hp
 ·rw [List.length_map]
  have:=hg.ed.len
  have:=hg.ed.even
  omega
theorem Core.iso {u:List Nat} (h:Core t n es R) (hi:isoB n R S u=true) (hS:okR n S=true):Core (fun a=>t (u.getD a 0)) n es S:=by
 unfold isoB at hi
 simp only [Bool.and_eq_true,List.all_eq_true,List.any_eq_true,List.mem_range,decide_eq_true_eq,Bool.or_eq_true,beq_iff_eq,bne_iff_ne,eqP_iff,inP_iff] at hi
 obtain ⟨⟨⟨⟨i1,i2⟩,i3⟩,i4⟩,i5⟩:=hi
 refine ⟨fun a ha=>h.lt _ (i3 a ha),fun a b ha hb e=>?_,fun v hv=>?_,fun x hx=>?_,fun p hp=>?_,fun p hp=>okR_up hS hp⟩
 ·have:=h.inj _ _ (i3 a ha) (i3 b hb) e
  rcases i4 a ha b hb with h|h
  ·exact h
  ·exact absurd this h
 ·obtain ⟨a,ha,rfl⟩:=h.sur v hv
  obtain ⟨b,hb,e⟩:=i5 a ha
  exact ⟨b,hb,by rw [e]⟩
 ·obtain ⟨q,hq,rfl⟩:=h.out x hx
  obtain ⟨p,hp,rfl⟩:=i2 q hq
  exact ⟨p,hp,prE_prN _ _ _⟩
 ·have:=h.inn _ (i1 p hp)
  rw [prE_prN] at this
  exact this
theorem getD_inj {α:Type} {d:α} {l:List α} (h:l.Nodup) {i j:Nat} (hi:i<l.length) (hj:j<l.length) (e:l.getD i d=l.getD j d):i=j:=by
 rw [getD_of hi,getD_of hj] at e
 unfold List.Nodup at h
 rw [List.pairwise_iff_getElem] at h
 rcases Nat.lt_trichotomy i j with hij|hij|hij
 ·exact absurd e (h i j hi hj hij)
 ·exact hij
 ·exact absurd e.symm (h j i hj hi hij)
theorem Core.br (h:Core t n es R) (hg:IsG n es) (hn:es.Nodup) (he:e<es.length) (hf:f<es.length) (hef:e≠f) :
 ∃ r∈R,∃ s∈R,r≠s∧Core (fun a=>if a<n then t a else a) (n+2) (brG n es e f) (brR n R r s):=by
 obtain ⟨r,hr,er⟩:=h.out (es.getD e (0,0)) (by rw [getD_of he];exact List.getElem_mem he)
 obtain ⟨s,hs,esf⟩:=h.out (es.getD f (0,0)) (by rw [getD_of hf];exact List.getElem_mem hf)
 have hrs:r≠s:=fun e'=>hef (getD_inj hn he hf (by rw [er,esf,e']))
 have ur:=h.up r hr
 have us:=h.up s hs
 have told:∀ a,a<n→(if a<n then t a else a)=t a:=fun a ha=>if_pos ha
 have pold:∀ p∈R,prE (fun a=>if a<n then t a else a) p=prE t p:=fun p hp=>by
  have:=h.up p hp
  exact prE_congr (told _ (by omega)) (told _ this.2)
 have pnew:∀ (a k:Nat),a<n→prE (fun a=>if a<n then t a else a) (a,n+k)=((t a:Int),((n+k:Nat):Int)):=fun a k ha=>by
  unfold prE
  show nrmE (((if a<n then t a else a:Nat):Int),((if n+k<n then t (n+k) else n+k:Nat):Int))=_
  rw [told a ha,if_neg (by omega)]
  have:=h.lt a ha
  exact nrmE_lt (by omega)
 have pbr:prE (fun a=>if a<n then t a else a) (n,n+1)=((n:Int),(n:Int)+1):=by
  unfold prE
  show nrmE (((if n<n then t n else n:Nat):Int),((if n+1<n then t (n+1) else n+1:Nat):Int))=_
  rw [if_neg (by omega),if_neg (by omega)]
  exact nrmE_lt (by omega)
 have fil:∀ p,p∈(R.filter fun x=>!eqP x r&&!eqP x s)↔p∈R∧p≠r∧p≠s:=fun p=>by
  rw [List.mem_filter,Bool.and_eq_true,Bool.not_eq_true',Bool.not_eq_true',← Bool.not_eq_true,← Bool.not_eq_true,eqP_iff,eqP_iff]
 have memG:∀ x,x∈brG n es e f↔x=((n:Int),(n:Int)+1)∨∃ i,i<es.length∧x∈brB n es e f i:=fun x=>by
  unfold brG
  rw [(srtE_perm _).mem_iff]
  unfold bgTo
  rw [List.mem_cons,List.mem_flatMap]
  simp only [List.mem_range]
 have two:∀ p:Nat × Nat,(prE t p=((t p.1:Int),(t p.2:Int)))∨(prE t p=((t p.2:Int),(t p.1:Int))):=fun p=>nrmE_cases _ _
 refine ⟨r,hr,s,hs,hrs,fun a ha=>?_,fun a b ha hb e'=>?_,fun v hv=>?_,fun x hx=>?_,fun p hp=>?_,fun p hp=>?_⟩
 ·show (if a<n then t a else a)<n+2
  split
  ·have:=h.lt a (by assumption);omega
  ·exact ha
 ·have e':(if a<n then t a else a)=(if b<n then t b else b):=e'
  by_cases h1:a<n <;> by_cases h2:b<n
  ·rw [if_pos h1,if_pos h2] at e';exact h.inj _ _ h1 h2 e'
  ·rw [if_pos h1,if_neg h2] at e';have:=h.lt a h1;omega
  ·rw [if_neg h1,if_pos h2] at e';have:=h.lt b h2;omega
  ·rw [if_neg h1,if_neg h2] at e';exact e'
 ·by_cases h1:v<n
  ·obtain ⟨a,ha,e'⟩:=h.sur v h1
   exact ⟨a,by omega,by show (if a<n then t a else a)=v;rw [if_pos ha,e']⟩
  ·exact ⟨v,hv,by show (if v<n then t v else v)=v;rw [if_neg h1]⟩
 ·rcases (memG x).1 hx with rfl|⟨i,hi,hx⟩
  ·exact ⟨(n,n+1),by unfold brR;simp,pbr.symm⟩
  ·unfold brB at hx
   by_cases hie:i=e
   ·subst hie
    rw [if_pos rfl,er] at hx
    have hx:x=((t r.1:Int),(n:Int))∨x=((t r.2:Int),(n:Int)):=by
     rcases two r with e'|e' <;> rw [e'] at hx <;> simp only [List.mem_cons,List.not_mem_nil,or_false] at hx
     ·exact hx
     ·exact hx.symm
    rcases hx with rfl|rfl
    ·exact ⟨(r.1,n),by unfold brR;simp,(pnew r.1 0 (by omega)).symm⟩
    ·exact ⟨(r.2,n),by unfold brR;simp,(pnew r.2 0 (by omega)).symm⟩
   ·rw [if_neg hie] at hx
    by_cases hif:i=f
    ·subst hif
     rw [if_pos rfl,esf] at hx
     have hx:x=((t s.1:Int),(n:Int)+1)∨x=((t s.2:Int),(n:Int)+1):=by
      rcases two s with e'|e' <;> rw [e'] at hx <;> simp only [List.mem_cons,List.not_mem_nil,or_false] at hx
      ·exact hx
      ·exact hx.symm
     rcases hx with rfl|rfl
     ·exact ⟨(s.1,n+1),by unfold brR;simp,(pnew s.1 1 (by omega)).symm⟩
     ·exact ⟨(s.2,n+1),by unfold brR;simp,(pnew s.2 1 (by omega)).symm⟩
    ·rw [if_neg hif,List.mem_singleton] at hx
     obtain ⟨p,hp,ep⟩:=h.out (es.getD i (0,0)) (by rw [getD_of hi];exact List.getElem_mem hi)
     refine ⟨p,?_,by rw [hx,ep,pold p hp]⟩
     unfold brR
     have:p∈(R.filter fun x=>!eqP x r&&!eqP x s):=(fil p).2 ⟨hp,fun e'=>hie (getD_inj hn hi he (by rw [ep,er,e'])),fun e'=>hif (getD_inj hn hi hf (by rw [ep,esf,e']))⟩
     simp only [List.mem_cons]
     exact .inr (.inr (.inr (.inr (.inr this))))
 ·rw [memG]
  unfold brR at hp
  simp only [List.mem_cons] at hp
  have inE:∀ x,(x=((t r.1:Int),(n:Int))∨x=((t r.2:Int),(n:Int)))→x∈brB n es e f e:=fun x hx=>by
   unfold brB
   rw [if_pos rfl,er]
   rcases two r with e'|e' <;> rw [e'] <;> simp only [List.mem_cons,List.not_mem_nil,or_false]
   ·exact hx
   ·exact hx.symm
  have inF:∀ x,(x=((t s.1:Int),(n:Int)+1)∨x=((t s.2:Int),(n:Int)+1))→x∈brB n es e f f:=fun x hx=>by
   unfold brB
   rw [if_neg (fun e'=>hef e'.symm),if_pos rfl,esf]
   rcases two s with e'|e' <;> rw [e'] <;> simp only [List.mem_cons,List.not_mem_nil,or_false]
   ·exact hx
   ·exact hx.symm
  rcases hp with rfl|rfl|rfl|rfl|rfl|hp
  ·exact .inl pbr
  ·exact .inr ⟨e,he,inE _ (.inl (pnew r.1 0 (by omega)))⟩
  ·exact .inr ⟨e,he,inE _ (.inr (pnew r.2 0 (by omega)))⟩
  ·exact .inr ⟨f,hf,inF _ (.inl (pnew s.1 1 (by omega)))⟩
  ·exact .inr ⟨f,hf,inF _ (.inr (pnew s.2 1 (by omega)))⟩
  ·obtain ⟨h1,h2,h3⟩:=(fil p).1 hp
   obtain ⟨i,hi,e'⟩:=List.getElem_of_mem (h.inn p h1)
   rw [← getD_of (d:=(0,0)) hi] at e'
   refine .inr ⟨i,hi,?_⟩
   unfold brB
   rw [if_neg (fun hie=>h2 (h.one h1 hr (by rw [← e',hie,er]))),if_neg (fun hif=>h3 (h.one h1 hs (by rw [← e',hif,esf]))),pold p h1,List.mem_singleton]
   exact e'.symm
 ·unfold brR at hp
  simp only [List.mem_cons] at hp
  rcases hp with rfl|rfl|rfl|rfl|rfl|hp
  ·show n<n+1∧n+1<n+2;omega
  ·show r.1<n∧n<n+2;omega
  ·show r.2<n∧n<n+2;omega
  ·show s.1<n+1∧n+1<n+2;omega
  ·show s.2<n+1∧n+1<n+2;omega
  ·have:=h.up p ((fil p).1 hp).1;omega
theorem one_len {α:Type} {l:List α} (hn:l.Nodup) {a:α} (ha:a∈l) (h:∀ x∈l,x=a):l.length=1:=by
 match l,hn,ha,h with
 | [x],_,_,_=>rfl
 | x::y::l,hn,_,h=>
  rw [List.nodup_cons] at hn
  exact absurd (by rw [h x (by simp),h y (by simp)];simp) hn.1
noncomputable def mOf (t:Nat→Nat) (es:List (Int × Int)) (m:List (Nat × Nat)):List Int:=filtB (fun j=>@decide (∃ p∈m,es.getD j (0,0)=prE t p) (Classical.propDecidable _)) es.length
theorem mem_mOf {m:List (Nat × Nat)} {x:Int}:x∈mOf t es m↔∃ j:Nat,x=j∧j<es.length∧∃ p∈m,es.getD j (0,0)=prE t p:=by
 unfold mOf
 rw [mem_filtB]
 simp
theorem Core.mat (h:Core t n es R) (hg:IsG n es) (hn:es.Nodup) {m:List (Nat × Nat)} (hm:pmB n R m=true):mOf t es m∈mats n es:=by
 unfold pmB at hm
 simp only [Bool.and_eq_true,List.all_eq_true,List.mem_range,beq_iff_eq,inP_iff] at hm
 obtain ⟨h1,h2⟩:=hm
 have hs:IsS (mOf t es m) es.length:=asc_isS (filtB_asc _ _) fun x hx=>by
  obtain ⟨j,rfl,hj,_⟩:=mem_mOf.1 hx;omega
 unfold mats
 rw [show ((n:Int)).toNat=n by omega]
 have:=mats_all hg hs fun x hx=>?_
 ·rwa [show ((n:Int)).toNat=n by omega] at this
 ·obtain ⟨a,ha,rfl⟩:=h.sur x (by omega)
  have h1a:=h2 a ha
  obtain ⟨p,hp⟩:=List.length_eq_one_iff.1 h1a
  have pm:p∈m.filter (onP a):=by rw [hp];simp
  rw [List.mem_filter] at pm
  have po:p.1=a∨p.2=a:=by
   have:=pm.2
   unfold onP at this
   simpa using this
  obtain ⟨j,hj,ej⟩:=List.getElem_of_mem (h.inn p (h1 p pm.1))
  rw [← getD_of (d:=(0,0)) hj] at ej
  unfold degC
  refine one_len ((filtB_nodup _ _).filter _) (a:=(j:Int)) ?_ fun y hy=>?_
  ·rw [List.mem_filter]
   refine ⟨mem_mOf.2 ⟨j,rfl,hj,p,pm.1,ej⟩,?_⟩
   rw [Int.toNat_natCast,ej]
   exact (h.isOn (h1 p pm.1) ha).2 po
  ·rw [List.mem_filter] at hy
   obtain ⟨hy,ho⟩:=hy
   obtain ⟨i,rfl,hi,q,hq,ei⟩:=mem_mOf.1 hy
   rw [Int.toNat_natCast,ei] at ho
   have qo:=(h.isOn (h1 q hq) ha).1 ho
   have:q∈m.filter (onP a):=by
    rw [List.mem_filter]
    refine ⟨hq,?_⟩
    unfold onP;simpa using qo
   rw [hp,List.mem_singleton] at this
   subst this
   have:=getD_inj hn hi hj (ei.trans ej.symm)
   omega
theorem Core.dif (h:Core t n es R) {m l:List (Nat × Nat)} (hm:pmB n R m=true) (hl:pmB n R l=true) (hd:difB m l=true):mOf t es m≠mOf t es l:=by
 intro e'
 unfold pmB at hm hl
 simp only [Bool.and_eq_true,List.all_eq_true,inP_iff] at hm hl
 unfold difB at hd
 rw [List.any_eq_true] at hd
 obtain ⟨p,hp,hn⟩:=hd
 rw [Bool.not_eq_true',← Bool.not_eq_true,inP_iff] at hn
 obtain ⟨j,hj,ej⟩:=List.getElem_of_mem (h.inn p (hm.1 p hp))
 rw [← getD_of (d:=(0,0)) hj] at ej
 have:(j:Int)∈mOf t es l:=by rw [← e'];exact mem_mOf.2 ⟨j,rfl,hj,p,hp,ej⟩
 obtain ⟨i,hi,_,q,hq,ei⟩:=mem_mOf.1 this
 obtain rfl:j=i:=by omega
 have:=h.one (hm.1 p hp) (hl.1 q hq) (ej.symm.trans ei)
 subst this
 exact hn hq
theorem Core.three (h:Core t n es R) (hg:IsG n es) (hR:has3 n R=true):3≤(mats n es).length:=by
 unfold has3 at hR
 rw [Bool.and_eq_true] at hR
 obtain ⟨hok,hR⟩:=hR
 have hn:=h.nodup hg hok
 split at hR
 ·rename_i a b c _ _
  simp only [Bool.and_eq_true] at hR
  obtain ⟨⟨⟨⟨⟨pa,pb⟩,pc⟩,ab⟩,ac⟩,bc⟩:=hR
  have:=nodup_subG (l:=[mOf t es a,mOf t es b,mOf t es c]) (m:=mats n es) (by
   simp only [List.nodup_cons,List.mem_cons,List.not_mem_nil,or_false,not_or,not_false_eq_true,List.nodup_nil,and_true]
   exact ⟨⟨h.dif pa pb ab,h.dif pa pc ac⟩,h.dif pb pc bc⟩) fun x hx=>by
    simp only [List.mem_cons,List.not_mem_nil,or_false] at hx
    rcases hx with rfl|rfl|rfl
    ·exact h.mat hg hn pa
    ·exact h.mat hg hn pb
    ·exact h.mat hg hn pc
  exact this
 ·cases hR
def Grown (k:Nat) (es:List (Int × Int)):Prop:=match k with
 | 0=>es=[(0,1),(0,1),(0,1)]
 | 1=>∃ R∈rps4,∃ t,Core t 4 es R
 | 2=>∃ R∈rps6,∃ t,Core t 6 es R
 | 3=>∃ R∈rps8,∃ t,Core t 8 es R
 | _=>∃ R,has3 10 R=true∧∃ t,Core t 10 es R
theorem oks:(∀ R∈rps4,okR 4 R=true∧has3 4 R=true)∧(∀ R∈rps6,okR 6 R=true∧has3 6 R=true)∧∀ R∈rps8,okR 8 R=true∧has3 8 R=true:=by
 have h:=ok_all
 have k:=three_all
 simp only [Bool.and_eq_true,List.all_eq_true] at h k
 exact ⟨fun R hR=>⟨h.1.1 R hR,k.1.1 R hR⟩,fun R hR=>⟨h.1.2 R hR,k.1.2 R hR⟩,fun R hR=>⟨h.2 R hR,k.2 R hR⟩⟩
theorem base_isG:IsG 2 [(0,1),(0,1),(0,1)]:=by
 refine isG_of ⟨by omega,by omega,by omega,by decide,fun e he=>?_⟩ (fun e he=>?_) (fun i hi=>?_) fun v hv=>?_
 ·simp only [List.mem_cons,List.not_mem_nil,or_false,or_self] at he
  subst he;decide
 ·simp only [List.mem_cons,List.not_mem_nil,or_false,or_self] at he
  subst he;decide
 ·have:i=0∨i=1:=by simp only [List.length_cons,List.length_nil] at hi;omega
  rcases this with rfl|rfl <;> decide
 ·have:v=0∨v=1:=by omega
  rcases this with rfl|rfl <;> rfl
theorem base_br {e f:Nat} (he:e<3) (hf:f<3) (hef:e≠f):brG 2 [(0,1),(0,1),(0,1)] e f=[(0,1),(0,2),(0,3),(1,2),(1,3),(2,3)]:=by
 unfold brG
 refine (srtE_eq (S:=[(0,1),(0,2),(0,3),(1,2),(1,3),(2,3)]) (by decide) ?_).symm
 have h1:e=0∨e=1∨e=2:=by omega
 have h2:f=0∨f=1∨f=2:=by omega
 rcases h1 with rfl|rfl|rfl <;> rcases h2 with rfl|rfl|rfl <;> first|(exact absurd rfl hef)|decide
theorem Grown.step {k:Nat} (hk:k<4) (h:Grown k es) (hg:IsG ((2*k+2:Nat):Int) es) {e f:Nat} (he:e<es.length) (hf:f<es.length) (hef:e≠f):Grown (k+1) (brG ((2*k+2:Nat):Int) es e f):=by
 obtain ⟨o4,o6,o8⟩:=oks
 match k,hk,h with
 | 0,_,h=>
  have h:es=[(0,1),(0,1),(0,1)]:=h
  subst h
  show ∃ R∈rps4,∃ t,Core t 4 (brG 2 [(0,1),(0,1),(0,1)] e f) R
  rw [base_br he hf hef]
  refine ⟨rp40,by unfold rps4;simp,fun a=>a,fun a ha=>ha,fun a b _ _ e=>e,fun v hv=>⟨v,hv,rfl⟩,fun x hx=>?_,fun p hp=>?_,fun p hp=>okR_up (o4 rp40 (by unfold rps4;simp)).1 hp⟩
  ·simp only [List.mem_cons,List.not_mem_nil,or_false] at hx
   rcases hx with rfl|rfl|rfl|rfl|rfl|rfl
   ·exact ⟨(0,1),by unfold rp40;simp,by decide⟩
   ·exact ⟨(0,2),by unfold rp40;simp,by decide⟩
   ·exact ⟨(0,3),by unfold rp40;simp,by decide⟩
   ·exact ⟨(1,2),by unfold rp40;simp,by decide⟩
   ·exact ⟨(1,3),by unfold rp40;simp,by decide⟩
   ·exact ⟨(2,3),by unfold rp40;simp,by decide⟩
  ·unfold rp40 at hp
   simp only [List.mem_cons,List.not_mem_nil,or_false] at hp
   rcases hp with rfl|rfl|rfl|rfl|rfl|rfl <;> decide
 | 1,_,h=>
  obtain ⟨R,hR,t,h⟩:∃ R∈rps4,∃ t,Core t 4 es R:=h
  obtain ⟨r,hr,s,hs,hrs,hc⟩:=h.br hg (h.nodup hg (o4 R hR).1) he hf hef
  have:∃ T∈rps6,∃ u,isoB 6 (brR 4 R r s) T u=true:=by
   unfold rps4 at hR
   rw [List.mem_singleton] at hR
   subst hR
   exact chk_get ck40 hr hs hrs
  obtain ⟨T,hT,u,hu⟩:=this
  exact ⟨T,hT,_,hc.iso hu (o6 T hT).1⟩
 | 2,_,h=>
  obtain ⟨R,hR,t,h⟩:∃ R∈rps6,∃ t,Core t 6 es R:=h
  obtain ⟨r,hr,s,hs,hrs,hc⟩:=h.br hg (h.nodup hg (o6 R hR).1) he hf hef
  have:∃ T∈rps8,∃ u,isoB 8 (brR 6 R r s) T u=true:=by
   unfold rps6 at hR
   simp only [List.mem_cons,List.not_mem_nil,or_false] at hR
   rcases hR with rfl|rfl
   ·exact chk_get ck60 hr hs hrs
   ·exact chk_get ck61 hr hs hrs
  obtain ⟨T,hT,u,hu⟩:=this
  exact ⟨T,hT,_,hc.iso hu (o8 T hT).1⟩
 | 3,_,h=>
  obtain ⟨R,hR,t,h⟩:∃ R∈rps8,∃ t,Core t 8 es R:=h
  obtain ⟨r,hr,s,hs,hrs,hc⟩:=h.br hg (h.nodup hg (o8 R hR).1) he hf hef
  refine ⟨brR 8 R r s,?_,_,hc⟩
  unfold rps8 at hR
  simp only [List.mem_cons,List.not_mem_nil,or_false] at hR
  rcases hR with rfl|rfl|rfl|rfl
  ·exact List.all_eq_true.1 ten_0 _ (mem_prs hr hs hrs)
  ·exact List.all_eq_true.1 ten_1 _ (mem_prs hr hs hrs)
  ·exact List.all_eq_true.1 ten_2 _ (mem_prs hr hs hrs)
  ·exact List.all_eq_true.1 ten_3 _ (mem_prs hr hs hrs)
theorem Grown.three {k:Nat} (hk:k≤4) (h:Grown k es) (hg:IsG ((2*k+2:Nat):Int) es):3≤(mats ((2*k+2:Nat):Int) es).length:=by
 obtain ⟨o4,o6,o8⟩:=oks
 match k,hk,h with
 | 0,_,h=>
  have h:es=[(0,1),(0,1),(0,1)]:=h
  subst h
  have key:∀ i:Nat,i<3→[(i:Int)]∈mats 2 [(0,1),(0,1),(0,1)]:=fun i hi=>by
   unfold mats
   refine mats_all base_isG (asc_isS (by unfold Asc;simp) fun x hx=>?_) fun x hx=>?_
   ·rw [List.mem_singleton] at hx;subst hx
    exact ⟨by omega,by show (i:Int)<3;omega⟩
   ·have h1:i=0∨i=1∨i=2:=by omega
    have h2:x=0∨x=1:=by omega
    rcases h1 with rfl|rfl|rfl <;> rcases h2 with rfl|rfl <;> rfl
  exact nodup_subG (l:=[[((0:Nat):Int)],[((1:Nat):Int)],[((2:Nat):Int)]]) (by decide) fun x hx=>by
   simp only [List.mem_cons,List.not_mem_nil,or_false] at hx
   rcases hx with rfl|rfl|rfl
   ·exact key 0 (by omega)
   ·exact key 1 (by omega)
   ·exact key 2 (by omega)
 | 1,_,h=>
  obtain ⟨R,hR,t,h⟩:∃ R∈rps4,∃ t,Core t 4 es R:=h
  exact h.three hg (o4 R hR).2
 | 2,_,h=>
  obtain ⟨R,hR,t,h⟩:∃ R∈rps6,∃ t,Core t 6 es R:=h
  exact h.three hg (o6 R hR).2
 | 3,_,h=>
  obtain ⟨R,hR,t,h⟩:∃ R∈rps8,∃ t,Core t 8 es R:=h
  exact h.three hg (o8 R hR).2
 | 4,_,h=>
  obtain ⟨R,hR,t,h⟩:∃ R,has3 10 R=true∧∃ t,Core t 10 es R:=h
  exact h.three hg hR
end Go.Proofs
namespace Go.Proofs
open Go.Abs

variable {H G:AHeap} {v u f:Value} {l m c D S:List Int} {es fs:List (Int × Int)} {K:Value→AHeap→Prop} {cs:List (List Int)}

end Go.Proofs
namespace Go.Proofs
open Go.Abs

variable {H G:AHeap} {v u f:Value} {l m c D:List Int} {es fs:List (Int × Int)} {K:Value→AHeap→Prop} {cs:List (List Int)}

end Go.Proofs
