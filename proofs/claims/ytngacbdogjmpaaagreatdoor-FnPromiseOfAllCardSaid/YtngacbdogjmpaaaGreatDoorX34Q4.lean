/- Contracts and plain mathematics for a law, merged. -/
import Derived.Test.YtngacbdogjmpaaaGreatDoorX34Q3
set_option linter.unusedVariables false
set_option linter.unusedSimpArgs false
set_option maxRecDepth 100000
namespace Go.Proofs
open Go.Abs

variable {H G:AHeap} {v u f:Value} {l m c D:List Int} {es fs:List (Int × Int)} {K:Value→AHeap→Prop}

theorem sl_two {m0:Nat} {t:TypeId} {z:Nat} {cs:List Value} (h:Sl m0 H v t z cs) (k:∀ (b:Nat) (o:AObj),m0≤b→H[b]?=some (some o)→G[b]?=some (some o)):Sl m0 G v t z cs:=by
 rcases h with h|⟨b,n,pre,post,h1,h2,h3,h4⟩
 ·exact .inl h
 ·exact .inr ⟨b,n,pre,post,h1,h2,k b _ h1 h3,h4⟩
theorem painterB_ok {bb:Bool} {n:Int} {qE fV:Value} (hg:IsG n es) (he:Edges H v es) (hq:qE.oneCell'=true) (hf:fV.oneCell'=true)
 (k:∀ pb cb ub tP G,H.le G→H.length≤pb→H.length≤cb→H.length≤ub→cb≠ub→pb≠cb→pb≠ub→Own G pb tP [.int .i64 n,v,qE,.slice (some ⟨cb,0,none⟩) es.length (es.length+1),.slice (some ⟨ub,0,none⟩) n.toNat (n.toNat+1),fV]→
  Own G cb 2 (LI (blank es))→Own G ub 83 (LU (List.replicate n.toNat 0))→Own G H.length 31 [.int .i64 n,v]→F126.B8 K bb H.length (.pointer (some ⟨pb,0,none⟩)) G) :
 AC Tryz.prog T0 126 [.agg ⟨[.int .i64 n,v]⟩,qE,.bool bb,fV] H K:=by
 have n0:=hg.ed.lo;have n1:=hg.ed.hi
 have h30:es.length≤30:=by have:=hg.ed.len;omega
 have hv:=edges_one' he
 apply F126.ac
 unfold F126.B10
 refine newK_f (all_iv hv) fun H1 l1 n1' o1=>?_
 have fin:∀ (G G':AHeap) (cb ub pb:Nat) (tP:TypeId),H1.le G→H1.length≤cb→H1.length≤ub→H1.length≤pb→cb≠ub→pb≠cb→pb≠ub→Own G pb tP [.int .i64 n,v,qE,.slice (some ⟨cb,0,none⟩) es.length (es.length+1),.slice (some ⟨ub,0,none⟩) n.toNat (n.toNat+1),fV]→
  Own G cb 2 (LI (List.replicate es.length (-1)))→Own G ub 83 (LU (List.replicate n.toNat 0))→F126.B8 K bb H.length (.pointer (some ⟨pb,0,none⟩)) G:=by
  intro G G' cb ub pb tP hG h1 h2 h6 h3 h4 h5 oP oc ou
  have:=l1.1
  exact k pb cb ub tP G (AHeap.le_trans l1 hG) (by omega) (by omega) (by omega) h3 h4 h5 oP oc ou (o1.le hG)
 unfold F126.B9
 refine ldI_own o1 rfl (ld1_own o1 rfl (ld1_own o1 rfl ((he.le l1).len (ldI_own o1 rfl ⟨newK_f rfl fun H2 l2 n2 o2=>⟨?_,?_⟩,?_⟩))))
 ·refine repeat_ok (t:=-1) (by simpa using o2) (by omega) (by omega) fun H3 l3 o3=>?_
  have l13:=AHeap.le_trans l2 l3
  refine ⟨ldI_own (o1.le l13) rfl (ld1_own (o1.le l13) rfl ⟨rfl,rfl⟩),ldI_own (o1.le l13) rfl ⟨rfl,rfl⟩,mkR_int (by omega) (by omega) (by decide) fun H4 l4 n4 o4=>pif_t hq (pif_t rfl (pif_t rfl (pif_t hf (newK_f (by simp only [List.all_cons,List.all_nil,hv,hq,hf];rfl) fun H5 l5 n5 o5=>?_))))⟩
  rw [rep_u] at o4
  have:=lt_of_get o3
  have:=l2.1
  exact fin H5 H5 _ _ _ _ (AHeap.le_trans l13 (AHeap.le_trans l4 l5)) (by omega) (by have:=l3.1;omega) (by have:=l3.1;have:=l4.1;omega) (by omega) (by have:=l4.1;omega) (by omega) o5 (o3.le (AHeap.le_trans l4 l5)) (o4.le l5)
 ·refine mkR_int (by omega) (by omega) (by decide) fun H3 l3 n3 o3=>repeat_ok (t:=-1) (by simpa using o2.le l3) (by omega) (by omega) fun H4 l4 o4=>?_
  have l14:=AHeap.le_trans l2 (AHeap.le_trans l3 l4)
  refine ⟨ldI_own (o1.le l14) rfl (ld1_own (o1.le l14) rfl ⟨rfl,rfl⟩),ldI_own (o1.le l14) rfl ⟨rfl,rfl⟩,pif_t hq (pif_t rfl (pif_t rfl (pif_t hf (newK_f (by simp only [List.all_cons,List.all_nil,hv,hq,hf];rfl) fun H5 l5 n5 o5=>?_))))⟩
  rw [rep_u] at o3
  have:=lt_of_get o4
  have:=l2.1
  exact fin H5 H5 _ _ _ _ (AHeap.le_trans l14 l5) (by have:=l3.1;omega) (by omega) (by have:=l3.1;have:=l4.1;omega) (by omega) (by omega) (by have:=l4.1;omega) o5 (o4.le l5) (o3.le (AHeap.le_trans l4 l5))
 ·refine mkR_int (by omega) (by omega) (by decide) fun H2 l2 n2 o2=>newK_f rfl fun H3 l3 n3 o3=>repeat_ok (t:=-1) (by simpa using o3) (by omega) (by omega) fun H4 l4 o4=>?_
  have l14:=AHeap.le_trans l2 (AHeap.le_trans l3 l4)
  refine ⟨ldI_own (o1.le l14) rfl (ld1_own (o1.le l14) rfl ⟨rfl,rfl⟩),ldI_own (o1.le l14) rfl ⟨rfl,rfl⟩,pif_t hq (pif_t rfl (pif_t rfl (pif_t hf (newK_f (by simp only [List.all_cons,List.all_nil,hv,hq,hf];rfl) fun H5 l5 n5 o5=>?_))))⟩
  rw [rep_u] at o2
  have:=lt_of_get o4
  exact fin H5 H5 _ _ _ _ (AHeap.le_trans l14 l5) (by have:=l2.1;have:=l3.1;omega) (by omega) (by have:=l2.1;have:=l3.1;have:=l4.1;omega) (by have:=l3.1;omega) (by omega) (by have:=l3.1;have:=l4.1;omega) o5 (o4.le l5) (o2.le (AHeap.le_trans l3 (AHeap.le_trans l4 l5)))
theorem painterN_ok {n:Int} {qE fV:Value} (hg:IsG n es) (he:Edges H v es) (hq:qE.oneCell'=true) (hf:fV.oneCell'=true)
 (k:∀ pb cb ub tP us G,H.le G→H.length≤pb→H.length≤cb→H.length≤ub→cb≠ub→pb≠cb→pb≠ub→Own G pb tP [.int .i64 n,v,qE,.slice (some ⟨cb,0,none⟩) es.length (es.length+1),.slice (some ⟨ub,0,none⟩) n.toNat (n.toNat+1),fV]→
  Own G cb 2 (LI (nstTo es 3))→Own G ub 83 (LU us)→UsedOk es n.toNat (nstTo es 3) us→K (.pointer (some ⟨pb,0,none⟩)) G) :
 AC Tryz.prog T0 126 [.agg ⟨[.int .i64 n,v]⟩,qE,.bool true,fV] H K:=by
 have n0:=hg.ed.lo;have n1:=hg.ed.hi
 have h30:es.length≤30:=by have:=hg.ed.len;omega
 refine painterB_ok hg he hq hf fun pb cb ub tP G lG hp hc hu q3 q4 q5 oP oc ou oG=>?_
 unfold F126.B8
 refine pif_t rfl ?_
 unfold F126.B7
 refine ldI_own oG rfl (ld1_own oG rfl (at_ok (he.le lG) (by omega) fun w G2 l2 hW=>?_))
 have h3:=hg.three (v:=0) (by omega) (by omega)
 refine hW.len (by decide) (n:=3) (by rw [List.length_map,h3]) ?_
 have hcl:=lt_of_get oc
 have hul:=lt_of_get ou
 have hpl:=lt_of_get oP
 unfold F126.L2
 refine ⟨fun x9 x27 x28 x29 G'=>.pointer (some ⟨pb,0,none⟩)=x9∧w=x27∧((3:Nat):Int)=x28∧∃ (t:Nat) (us:List Nat),x29=t∧t≤3∧Two cb ub G2 G'∧Own G' cb 2 (LI (nstTo es t))∧Own G' ub 83 (LU us)∧UsedOk es n.toNat (nstTo es t) us,fun _ _ _ x29 _=>3-x29.toNat,
  ⟨rfl,rfl,rfl,0,_,rfl,by omega,.le (AHeap.le_refl _),oc.le l2,ou.le l2,usedG_none⟩,?_⟩
 rintro x9 x27 x28 x29 G' ⟨rfl,rfl,rfl,t,us,rfl,ht,tw,oc',ou',hU⟩
 have oP':=tw.old _ _ q4 q5 (oP.le l2)
 have lG':=tw.base (AHeap.le_trans lG l2) hc hu
 unfold F126.B6
 refine pif_cases (fun hb=>?_) fun hb=>?_
 ·have ht3:t<3:=by have:=of_decide_eq_true hb;omega
  have hW':Ints G' w (atL es 0):=(sl_two hW fun b o hb ho=>tw.old b o (by omega) (by omega) ho).ints
  obtain ⟨j,hj1,hj2,hj3⟩:=at0_get hg ht3
  unfold F126.B5
  refine hW'.rd (by omega) (by omega) ?_
  rw [Int.toNat_natCast,hj1]
  unfold F126.B4
  have hbl:(nstTo es t).getD j 0=-1:=nstTo_out hg hj2 ht fun s hs e=>by
   have:=at0_inj hg (s:=s) (t:=t) (by omega) ht3 (by rw [e,hj1])
   omega
  have hul':=hU.1
  refine give_ok (x:=t) hg he lG' hc hu q3 q4 q5 oP' oc' ou' (nstTo_len t) hul' (fun w hw=>(hU.2 w hw).1) hj2 (by omega) fun G3 t3 oc3 ou3=>asTup_mk ?_
  obtain ⟨a,b,e1,e2,e3⟩:=edge_ends hg hj2
  have hU3:=hU.give (x:=t) (by rw [nstTo_len];exact hj2) hbl e1 (by omega) (by omega) (by omega) (by omega)
  rw [e1,Int.toNat_natCast,Int.toNat_natCast] at ou3
  unfold F126.B3
  rw [wrap_id (by omega) (by omega)]
  have hs:nstTo es (t+1)=(nstTo es t).set j (t:Int):=by rw [nstTo,hj1,Int.toNat_natCast]
  exact ⟨⟨rfl,rfl,rfl,t+1,_,by omega,by omega,tw.trans t3,by rw [hs];exact oc3,ou3,by rw [hs];exact hU3⟩,by simp;omega⟩
 ·have:t=3:=by have:=of_decide_eq_false hb;omega
  subst this
  unfold F126.B1
  exact k pb cb ub tP us G' lG' hp hc hu q3 q4 q5 oP' oc' ou' hU
section
variable {n:Int} {H0:AHeap} {pb cb ub:Nat} {tP:TypeId} {qE fV:Value} {X:Nat→Prop} {J:List (List Int)→AHeap→Prop} {q:List Int→Bool} {N Bd:Nat}
theorem startN_ok {E:List Int} {us:List Nat} {done:List (List Int)} (hC:Caller es H0 pb cb ub fV X Bd J q N) (hg:IsG n es) (he:Edges H0 v es) (hE:Ints H0 qE E) (hEl:E.length≤1000) (hEr:∀ x∈E,0≤x∧x<es.length) (hcb:H0.length≤cb) (hub:H0.length≤ub) (hne:cb≠ub) (hp1:pb≠cb) (hp2:pb≠ub) (h0:H0.le G) (hBd:Bd≤G.length) (hc:PrpC es c) (hU:UsedOk es n.toNat c us)
 (oP:Own G pb tP [.int .i64 n,v,qE,.slice (some ⟨cb,0,none⟩) es.length (es.length+1),.slice (some ⟨ub,0,none⟩) n.toNat (n.toNat+1),fV])
 (oc:Own G cb 2 (LI c)) (ou:Own G ub 83 (LU us)) (hJ:J done G) (hN:done.length+(ptL es E c).length≤N)
 (k:∀ G',Fnd X G G'→J (done++upTo q (ptL es E c)) G'→K (.bool ((ptL es E c).any q)) G') :
 AC Tryz.prog T0 128 [.pointer (some ⟨pb,0,none⟩)] G K:=by
 have n0:=hg.ed.lo;have n1:=hg.ed.hi
 have h30:es.length≤30:=by have:=hg.ed.len;omega
 have hcl:=hc.len
 apply F128.ac
 unfold F128.B17 F128.B16
 refine nilK_mk (asP_mk (ldI_own oP rfl ?_))
 unfold F128.L2
 refine ⟨fun x0 x11 x12 G'=>.pointer (some ⟨pb,0,none⟩)=x0∧n=x11∧G.le G'∧∃ i:Nat,x12=i∧i≤n.toNat,fun _ _ x12 _=>n.toNat-x12.toNat,⟨rfl,rfl,AHeap.le_refl _,0,rfl,by omega⟩,?_⟩
 rintro x0 x11 x12 G1 ⟨rfl,rfl,l1,i,rfl,hi⟩
 unfold F128.B15
 have oP1:=oP.le l1
 refine pif_cases (fun hb=>?_) fun hb=>?_
 ·have hin:i<n.toNat:=by have:=of_decide_eq_true hb;omega
  unfold F128.B14 F128.B13 F128.B12
  refine nilK_mk (asP_mk (ldI_own oP1 rfl (ld1_own oP1 rfl (at_ok (he.le (AHeap.le_trans h0 l1)) (by omega) fun w G2 l2 hW=>?_))))
  have h3:=hg.three (v:=(i:Int)) (by omega) (by omega)
  refine hW.len (by decide) (n:=3) (by rw [List.length_map,h3]) ?_
  unfold F128.L4
  refine ⟨fun x0 x4 x11 x12 x20 x21 x22 G'=>.pointer (some ⟨pb,0,none⟩)=x0∧n=x11∧((i:Nat):Int)=x12∧w=x20∧((3:Nat):Int)=x21∧G2=G'∧∃ t s:Nat,x22=t∧t≤3∧x4=s∧s<2^64∧∀ k:Nat,s.testBit k=true↔∃ t',t'<t∧c.getD ((atL es (i:Int)).getD t' 0).toNat 0=k,fun _ _ _ _ _ _ x22 _=>3-x22.toNat,⟨rfl,rfl,rfl,rfl,rfl,rfl,0,0,rfl,by omega,rfl,by decide,fun k=>by simp⟩,?_⟩
  rintro x0 x4 x11 x12 x20 x21 x22 G' ⟨rfl,rfl,rfl,rfl,rfl,rfl,t,s,rfl,ht,rfl,hs64,hs⟩
  have l12:=AHeap.le_trans l1 l2
  have oP2:=oP.le l12
  have oi:=own_ints (c:=es.length+1) (oc.le l12)
  rw [hcl] at oi
  unfold F128.B11
  refine pif_cases (fun hb=>?_) fun hb=>?_
  ·have ht3:t<3:=by have:=of_decide_eq_true hb;omega
   obtain ⟨j,hj1,hj2,hj3⟩:=at_get (es:=es) (w:=(i:Int)) (t:=t) (by omega)
   unfold F128.B10
   refine hW.ints.rd (by omega) (by omega) ?_
   rw [Int.toNat_natCast,hj1]
   unfold F128.B9
   refine nilK_mk (asP_mk (ld1_own oP2 rfl (oi.rd (by omega) (by omega) ?_)))
   rw [Int.toNat_natCast]
   have hrj:=hc.rng j
   refine pif_cases (fun hc1=>?_) fun hc1=>?_
   ·have hc1:c.getD j 0=-1:=beq_iff_eq.1 hc1
    unfold F128.B5
    rw [wrap_id (by omega) (by omega)]
    refine ⟨⟨rfl,rfl,rfl,rfl,rfl,rfl,t+1,s,by omega,by omega,rfl,hs64,fun k=>?_⟩,by show 3-((t:Int)+1).toNat<3-(t:Int).toNat;omega⟩
    rw [hs k]
    constructor
    ·rintro ⟨t',h1,h2⟩;exact ⟨t',by omega,h2⟩
    ·rintro ⟨t',h1,h2⟩
     by_cases e:t'=t
     ·subst e;rw [hj1,Int.toNat_natCast] at h2;omega
     ·exact ⟨t',by omega,h2⟩
   ·have hc1:c.getD j 0≠-1:=beq_eq_false_iff_ne.1 hc1
    have hfalse:s.testBit (c.getD j 0).toNat=false:=by
     cases hbt:s.testBit (c.getD j 0).toNat with
     | false=>rfl
     | true=>
      obtain ⟨t',h1,h2⟩:=(hs _).1 hbt
      obtain ⟨j',g1,g2,g3⟩:=at_get (es:=es) (w:=(i:Int)) (t:=t') (by omega)
      rw [g1,Int.toNat_natCast] at h2
      have hne':j'≠j:=fun e=>by
       have hnd:(atL es (i:Int)).Nodup:=filtB_nodup _ _
       have e2:(atL es (i:Int)).getD t' 0=(atL es (i:Int)).getD t 0:=by rw [g1,hj1,e]
       rw [getD_of (by omega),getD_of (by omega)] at e2
       have:=(List.getElem_inj hnd).1 e2
       omega
      exact absurd (show c.getD j 0=c.getD j' 0 by omega) (hc.col j j' hj2 g2 (fun e=>hne' e.symm) ⟨_,hj3,g3⟩ (by omega))
    unfold F128.B8
    refine nilK_mk (asP_mk (ld1_own oP2 rfl (oi.rd (by omega) (by omega) ?_)))
    rw [Int.toNat_natCast]
    refine has_ok hs64 (by omega) (asB_mk (pif_f hfalse ?_))
    unfold F128.B6
    refine nilK_mk (asP_mk (ld1_own oP2 rfl (oi.rd (by omega) (by omega) ?_)))
    rw [Int.toNat_natCast]
    have px:2^(c.getD j 0).toNat<2^64:=Nat.pow_lt_pow_right (by decide) (by omega)
    refine ⟨by omega,?_⟩
    rw [one_shl (by omega) (by omega),bits_or hs64 px]
    unfold F128.B5
    rw [wrap_id (by omega) (by omega)]
    refine ⟨⟨rfl,rfl,rfl,rfl,rfl,rfl,t+1,s|||2^(c.getD j 0).toNat,by omega,by omega,rfl,or_lt hs64 px,fun k=>?_⟩,by show 3-((t:Int)+1).toNat<3-(t:Int).toNat;omega⟩
    rw [Nat.testBit_or,Bool.or_eq_true,hs k,Nat.testBit_two_pow,decide_eq_true_iff]
    constructor
    ·rintro (⟨t',h1,h2⟩|h)
     ·exact ⟨t',by omega,h2⟩
     ·exact ⟨t,by omega,by rw [hj1,Int.toNat_natCast];omega⟩
    ·rintro ⟨t',h1,h2⟩
     by_cases e:t'=t
     ·subst e;rw [hj1,Int.toNat_natCast] at h2;right;omega
     ·exact .inl ⟨t',by omega,h2⟩
  ·unfold F128.B3
   rw [wrap_id (by omega) (by omega)]
   exact ⟨⟨rfl,rfl,l12,i+1,by omega,by omega⟩,by show n.toNat-((i:Int)+1).toNat<n.toNat-(i:Int).toNat;omega⟩
 ·unfold F128.B1
  have hl1:=l1.1
  refine paintG_ok hC hg he hE hEl hEr hcb hub hne hp1 hp2 E.length 0 _ _ done G1 _ (by omega) (by omega) (AHeap.le_trans h0 l1) (by omega) oP1 (oc.le l1) (ou.le l1) hcl hU (hC.st _ _ _ hJ (.le l1)) (by rw [List.drop_zero];exact hN) fun G2 f2 hJ2=>asB_mk ?_
  rw [List.drop_zero] at hJ2 ⊢
  exact k G2 ((Fnd.le l1).trans f2) hJ2
end
end Go.Proofs
namespace Go.Proofs
open Go.Abs

variable {H G:AHeap} {v u f:Value} {l m c D:List Int} {es fs:List (Int × Int)} {K:Value→AHeap→Prop} {n:Int}

theorem noB_le (G:AHeap) (b:Nat):AHeap.le (G.set b none) G:=by
 refine ⟨by simp,fun c o h=>?_⟩
 by_cases e:c=b
 ·subst e
  rw [List.getElem?_set] at h
  simp at h
 ·rwa [List.getElem?_set_ne (fun h=>e h.symm)] at h
theorem le_noB {b:Nat} (h:H.le G) (hb:H.length≤b):H.le (G.set b none):=by
 refine ⟨by simpa using h.1,fun c o ho=>?_⟩
 have:=lt_of_get ho
 rw [List.getElem?_set_ne (by omega)]
 exact h.2 c o ho
theorem noB_get {b c:Nat} {o:AObj} (h:(G.set b none:AHeap)[c]?=some (some o)):c≠b:=fun e=>by
 subst e
 rw [List.getElem?_set] at h
 simp at h
theorem lead_zero {N:Nat} (h:0<N):∃ r,leadL es N=0::r:=by
 obtain ⟨k,rfl⟩:∃ k,N=k+1:=⟨N-1,by omega⟩
 unfold leadL
 rw [List.range_succ_eq_map,List.filter_cons,if_pos (vLeadB_iff.2 fun b hb=>absurd hb (by omega))]
 exact ⟨_,rfl⟩
noncomputable def stN (es:List (Int × Int)) (i:Nat):List Int:=if i=0 then nstTo es 3 else blank es
theorem stN_prp (hg:IsG n es) (i:Nat):PrpC es (stN es i):=by
 unfold stN;split
 ·exact nst_prp hg (Nat.le_refl _)
 ·exact blank_prp
theorem stN_has (hg:IsG n es) (hc:∃ c,IsC es c) {i:Nat} (hi:i<(partL es n.toNat).length):ptL es ((partL es n.toNat).getD i []) (stN es i)≠[]:=by
 obtain ⟨c,hc⟩:=hc
 have n0:=hg.ed.lo
 have hl:i<(leadL es n.toNat).length:=by unfold partL at hi;simpa using hi
 rw [partL_get hl]
 unfold stN
 by_cases h0:i=0
 ·subst h0
  rw [if_pos rfl]
  obtain ⟨r,hr⟩:=lead_zero (es:=es) (show 0<n.toNat by omega)
  have:(leadL es n.toNat)[0]=0:=by simp only [hr,List.getElem_cons_zero]
  rw [this]
  obtain ⟨d,hd⟩:=nst_mem hg hc
  exact fun e=>by rw [e] at hd;cases hd
 ·rw [if_neg h0]
  exact fun e=>by have:=restr_mem hc (v:=(leadL es n.toNat)[i]);rw [e] at this;cases this
theorem stN_all (hg:IsG n es) (h:∀ i,i<(partL es n.toNat).length→ptL es ((partL es n.toNat).getD i []) (stN es i)≠[]):∃ c,IsC es c:=by
 refine parts_isC hg fun v hv=>?_
 obtain ⟨i,hi,rfl⟩:=List.getElem_of_mem hv
 have:=h i (by unfold partL;simpa using hi)
 rw [partL_get hi] at this
 obtain ⟨d,hd⟩:=List.exists_mem_of_ne_nil _ this
 obtain ⟨g1,_,g3⟩:=ptL_sound _ _ (stN_prp hg i) (fun x hx=>partE_rng hx) d hd
 exact ⟨d,g1,g3⟩
theorem any_true {L:List (List Int)}:L.any (fun _=>true)=!L.isEmpty:=by cases L <;> simp
theorem first_ok (h:Edges H v es) (hg:IsG n es) (k:∀ v' G,H.le G→(∀ K:Bool→Prop,(∀ b:Bool,(b=true↔¬ ∃ c,IsC es c)→K b)→isNilK v' K)→K v' G) :
 AC Tryz.prog T0 76 [.agg ⟨[.int .i64 n,v]⟩] H K:=by
 have n0:=hg.ed.lo;have n1:=hg.ed.hi
 have h30:es.length≤30:=by have:=hg.ed.len;omega
 apply F76.ac
 unfold F76.B11
 refine newK_f (all_iv (edges_one' h)) fun H1 l1 n1' o1=>?_
 unfold F76.B10
 refine ld1_own o1 rfl ((h.le l1).len (mkR_int (by omega) (by omega) (by decide) fun H2 l2 n2 o2=>?_))
 refine newK_f rfl fun H3 l3 n3 o3=>pif_t rfl (stK_1 o3 (by simp) rfl fun H4 b4 o4=>?_)
 rw [rep_one] at o2
 have l34:H2.le H4:=b4.le l3 (Nat.le_refl _)
 have l24:H1.le H4:=AHeap.le_trans l2 l34
 have l04:=AHeap.le_trans l1 l24
 have hlt1:=lt_of_get o1
 have hlt2:=lt_of_get o2
 have hl4:=l34.1
 obtain ⟨ob,hob⟩:∃ ob,ob=H1.length:=⟨_,rfl⟩
 obtain ⟨xb,hxb⟩:∃ xb,xb=H2.length:=⟨_,rfl⟩
 rw [← hob] at o2 o4
 rw [← hxb] at o4 ⊢
 simp only [Int.toNat_natCast,List.set_cons_zero] at o4 o2
 unfold F76.B9
 refine ldI_own (o1.le l24) rfl (ld1_own (o1.le l24) rfl (partEdges_ok (h.le l04) hg fun x8 H5 l5 hR=>?_))
 have hpl:=partL_length (es:=es) n.toNat
 have hsn:=sidesN_le es n.toNat
 have hlt4:=lt_of_get o4
 have hl5:=l5.1
 refine hR.len ?_
 have out5:Own H5 ob 2 (LI (List.replicate es.length 0)):=(o2.le l34).le l5
 have x5':=o4.le l5
 have g5:=(o1.le l24).le l5
 have l15:=AHeap.le_trans l24 l5
 have l05:=AHeap.le_trans l1 l15
 unfold F76.L2
 refine ⟨fun x1 x3 x12 x13 x14 G=>H.length=x1∧xb=x3∧x8=x12∧(((partL es n.toNat).length:Nat):Int)=x13∧Fnd (fun b=>b=ob) H5 G∧(∃ o:List Int,Own G ob 2 (LI o)∧o.length=es.length)∧∃ i:Nat,x14=i∧i≤(partL es n.toNat).length∧∀ j,j<i→ptL es ((partL es n.toNat).getD j []) (stN es j)≠[],
  fun _ _ _ _ x14 _=>(partL es n.toNat).length-x14.toNat,⟨rfl,rfl,rfl,rfl,.refl,⟨_,out5,by simp⟩,0,rfl,by omega,fun j hj=>absurd hj (by omega)⟩,?_⟩
 rintro x1 x3 x12 x13 x14 G ⟨rfl,rfl,rfl,rfl,fG,⟨o,oo,hol⟩,i,rfl,hi,hall⟩
 have oxG:=fG.own x5' (by omega)
 have ogG:=fG.own g5 (by omega)
 have hGl:=fG.len
 have hob0:H.length≤ob:=by have:=l1.1;omega
 have l0G:H.le G:=fG.base l05 fun b o hb=>by have:=lt_of_get hb;omega
 have hRG:=hR.move (G:=G) fun b o ha _ ho=>fG.old b o (by omega) ho
 unfold F76.B8
 refine pif_cases (fun hb=>?_) fun hb=>?_
 ·have hlt:i<(partL es n.toNat).length:=by have:=of_decide_eq_true hb;omega
  have hE:(partL es n.toNat).getD i []∈partL es n.toNat:=by rw [getD_of hlt];exact List.getElem_mem hlt
  obtain ⟨E,hEe⟩:∃ E,E=(partL es n.toNat).getD i []:=⟨_,rfl⟩
  rw [← hEe] at hE
  have hEr:∀ x∈E,0≤x∧x<es.length:=fun x hx=>by
   unfold partL at hE
   obtain ⟨w,_,rfl⟩:=List.mem_map.1 hE
   exact partE_rng hx
  have hEl:E.length≤es.length:=by
   unfold partL at hE
   obtain ⟨w,_,rfl⟩:=List.mem_map.1 hE
   exact filtB_length _ _
  unfold F76.B7
  refine hRG.rowA hlt fun y fy hyA=>?_
  rw [← hEe] at fy
  have hyo:y.oneCell'=true:=ints_one fy.ints
  refine newK_f rfl fun G1 g1 m1 p1=>pif_t hyo (stK_1 p1 (by simp) hyo fun G2 q2 p2=>?_)
  simp only [List.set_cons_zero] at p2
  have l2':G.le G2:=q2.le g1 (Nat.le_refl _)
  have hG2l:=l2'.1
  have oo2:=oo.le l2'
  have hlo:=lt_of_get oo
  have hlx:=lt_of_get oxG
  have hlp:=lt_of_get p2
  have ox2:=oxG.le l2'
  have og2:=ogG.le l2'
  have fy2:=fy.le l2'
  unfold F76.B6
  refine ldI_own og2 rfl (ld1_own og2 rfl (ld1_own p2 rfl ?_))
  have hfv:(Value.func (.func 141) ⟨[]⟩ ⟨[.pointer (some ⟨G.length,0,none⟩),.pointer (some ⟨xb,0,none⟩)]⟩).oneCell'=true:=rfl
  -- the heap without the list that is filled
  have le0:H.le (G2.set ob none):=le_noB (AHeap.le_trans l0G l2') hob0
  have y0:Ints (G2.set ob none:AHeap) y E:=(fresh_oth (G:=(G2.set ob none:AHeap)) fy2 fun b o hb ho=>by
   have:=hyA b hb
   rw [List.getElem?_set_ne (by omega)];exact ho).ints
  have hlen0:(G2.set ob none:AHeap).length=G2.length:=by simp
  have call:∀ pb cb ub:Nat,G2.length≤pb→G2.length≤cb→G2.length≤ub→∀ N,Caller es (G2.set ob none) pb cb ub (.func (.func 141) ⟨[]⟩ ⟨[.pointer (some ⟨G.length,0,none⟩),.pointer (some ⟨xb,0,none⟩)]⟩) (fun b=>b=ob) (ob+1) (fun done A=>∃ o:List Int,Own A ob 2 (LI o)∧o.length=es.length) (fun _=>true) N:=by
   intro pb cb ub h1 h2 h3 N
   refine ⟨fun b o hb=>noB_get hb,by omega,by omega,by omega,fun b e=>by omega,fun done A B ⟨o,hA,hAl⟩ t=>⟨o,t.old _ _ (by omega) (by omega) hA,hAl⟩,fun done c' A hA oc' hl' hJ hd K' hK'=>callV_mk ?_⟩
   obtain ⟨o',oo',hol'⟩:=hJ
   have pA:=hA.2 G.length _ ((List.getElem?_set_ne (show ob≠G.length by omega)).trans p2)
   have xA:=hA.2 xb _ ((List.getElem?_set_ne (show ob≠xb by omega)).trans ox2)
   have yA:=y0.le hA
   apply F141.ac
   unfold F141.B8 F141.B7
   refine asP_mk (ld1_own pA rfl (yA.len ?_))
   unfold F141.L2
   refine ⟨fun z0 z2 z7 z8 z9 B=>.slice (some ⟨cb,0,none⟩) es.length (es.length+1)=z0∧.pointer (some ⟨xb,0,none⟩)=z2∧y=z7∧((E.length:Nat):Int)=z8∧Fnd (fun b=>b=ob) A B∧(∃ o:List Int,Own B ob 2 (LI o)∧o.length=es.length)∧∃ t:Nat,z9=t∧t≤E.length,fun _ _ _ _ z9 _=>E.length-z9.toNat,
    ⟨rfl,rfl,rfl,rfl,.refl,⟨o',oo',hol'⟩,0,rfl,by omega⟩,?_⟩
   rintro z0 z2 z7 z8 z9 B ⟨rfl,rfl,rfl,rfl,fB,⟨ob',hob',hobl⟩,t,rfl,ht⟩
   have hAB:AHeap.le (G2.set ob none) B:=fB.base hA fun b o hb=>noB_get hb
   unfold F141.B6
   refine pif_cases (fun hb=>?_) fun hb=>?_
   ·have htl:t<E.length:=by have:=of_decide_eq_true hb;omega
    have he:=hEr _ (List.getElem_mem htl)
    rw [← getD_of (d:=0) htl] at he
    obtain ⟨e,hee⟩:∃ e:Nat,E.getD t 0=e:=⟨(E.getD t 0).toNat,by omega⟩
    unfold F141.B5
    refine (y0.le hAB).rd (by omega) (by omega) ?_
    rw [Int.toNat_natCast,hee]
    have xB:=fB.own xA (by omega)
    have cB:=fB.own oc' (by omega)
    unfold F141.B4
    refine asP_mk (ld1_own xB rfl (own_idx (by omega) (by omega) (ldI_own cB (n:=c'.getD e 0) (by rw [Int.toNat_natCast];simp [show e<c'.length by omega]) (own_idx (by omega) (by omega) (stK_1 hob' (by simp;omega) rfl fun B2 bt bo=>?_)))))
    rw [Int.toNat_natCast,← List.map_set] at bo
    unfold F141.B3
    rw [wrap_id (by omega) (by omega)]
    refine ⟨⟨rfl,rfl,rfl,rfl,fB.trans ⟨Nat.le_of_eq bt.len.symm,fun b o hb ho=>by rw [bt.same b hb];exact ho⟩,⟨_,bo,by simpa using hobl⟩,t+1,by omega,by omega⟩,by simp;omega⟩
   ·unfold F141.B1
    exact hK' B fB ⟨ob',hob',hobl⟩
  -- the end of a round
  have fin:∀ A:AHeap,Fnd (fun b=>b=ob) G2 A→(∃ o:List Int,Own A ob 2 (LI o)∧o.length=es.length)→F76.B5 K (fun z1 z3 z12 z13 z14 G'=>(H.length=z1∧xb=z3∧x8=z12∧(((partL es n.toNat).length:Nat):Int)=z13∧Fnd (fun b=>b=ob) H5 G'∧(∃ o:List Int,Own G' ob 2 (LI o)∧o.length=es.length)∧∃ i:Nat,z14=i∧i≤(partL es n.toNat).length∧∀ j,j<i→ptL es ((partL es n.toNat).getD j []) (stN es j)≠[])∧(partL es n.toNat).length-z14.toNat<(partL es n.toNat).length-(i:Int).toNat) H.length xb ((ptL es E (stN es i)).any fun _=>true) x8 ((partL es n.toNat).length:Nat) (i:Nat) A:=by
   intro A fA hA
   have fA':=(fG.trans (.le l2')).trans fA
   have l0A:H.le A:=fA'.base l05 fun b o hb=>by have:=lt_of_get hb;omega
   unfold F76.B5
   rw [any_true]
   refine pif_cases (fun hn=>?_) fun hn=>?_
   ·have hnil:ptL es E (stN es i)=[]:=by
     cases hp:ptL es E (stN es i) with
     | nil=>rfl
     | cons a L=>rw [hp] at hn;simp at hn
    unfold F76.B4
    refine k _ A l0A fun K' hK'=>hK' _ ?_
    show (true=true↔_)
    refine ⟨fun _ hc=>?_,fun _=>rfl⟩
    have:=stN_has hg hc hlt
    rw [← hEe] at this
    exact this hnil
   ·have hne:ptL es E (stN es i)≠[]:=fun e=>by rw [e] at hn;simp at hn
    unfold F76.B3
    rw [wrap_id (by omega) (by omega)]
    refine ⟨⟨rfl,rfl,rfl,rfl,fA',hA,i+1,by omega,by omega,fun j hj=>?_⟩,by show (partL es n.toNat).length-((i:Int)+1).toNat<(partL es n.toNat).length-(i:Int).toNat;omega⟩
    by_cases e:j=i
    ·subst e;rw [← hEe];exact hne
    ·exact hall j (by omega)
  by_cases hi0:i=0
  ·have hbt:(((i:Nat):Int)==0)=true:=by rw [hi0];rfl
   rw [hbt]
   have hst:stN es i=nstTo es 3:=by unfold stN;rw [if_pos hi0]
   refine painterN_ok hg (h.le (AHeap.le_trans l0G l2')) hyo hfv fun pb cb ub tP us G3 g3 r0 r1 r2 q3 q4 q5 oP oc ou hU=>?_
   have hg3:=g3.1
   refine startN_ok (done:=[]) (call pb cb ub r0 r1 r2 _) hg (h.le le0) y0 (by omega) hEr (by omega) (by omega) q3 q4 q5 (AHeap.le_trans (noB_le _ _) g3) (by omega) (nst_prp hg (Nat.le_refl _)) hU oP oc ou ⟨o,oo2.le g3,hol⟩ (by simp;exact Nat.le_refl _) fun G4 f4 hJ4=>asB_mk ?_
   have:=fin G4 ((Fnd.le g3).trans f4) hJ4
   rw [hst] at this
   exact this
  ·have hbt:(((i:Nat):Int)==0)=false:=by rw [beq_eq_false_iff_ne];omega
   rw [hbt]
   have hst:stN es i=blank es:=by unfold stN;rw [if_neg hi0]
   refine painterG_ok hg (h.le (AHeap.le_trans l0G l2')) hyo hfv fun pb cb ub tP G3 g3 r0 r1 r2 q3 q4 q5 oP oc ou=>?_
   have hg3:=g3.1
   refine startG_ok (done:=[]) (call pb cb ub r0 r1 r2 _) hg (h.le le0) y0 (by omega) hEr (by omega) (by omega) q3 q4 q5 (AHeap.le_trans (noB_le _ _) g3) (by omega) oP oc ou ⟨o,oo2.le g3,hol⟩ (by simp;exact Nat.le_refl _) fun G4 f4 hJ4=>asB_mk ?_
   have:=fin G4 ((Fnd.le g3).trans f4) hJ4
   rw [hst] at this
   exact this
 ·have hie:i=(partL es n.toNat).length:=by have:=of_decide_eq_false hb;omega
  subst hie
  unfold F76.B1
  refine ld1_own oxG rfl (k _ G l0G fun K' hK'=>hK' _ ?_)
  show (false=true↔_)
  exact ⟨fun h=>absurd h (by simp),fun h=>absurd (stN_all hg hall) h⟩
noncomputable def hasVal (n:Int) (es:List (Int × Int)):Bool:=@decide (IsG n es∧∃ c,IsC es c) (Classical.propDecidable _)
theorem implHas_ok (h:Edges H v es) (hl:es.length≤1048576) (k:∀ G,H.le G→K (.tuple ⟨[.bool (hasVal n es),.int .i64 (if IsG n es then 0 else 1)]⟩) G) :
 AC Tryz.prog T0 19 [.agg ⟨[.int .i64 n,v]⟩] H K:=by
 apply F19.ac
 unfold F19.B5
 refine newK_f (all_iv (edges_one' h)) fun H1 l1 n1' o1=>?_
 unfold F19.B4
 refine ldI_own o1 rfl (ld1_own o1 rfl (graphCode_ok (h.le l1) hl fun H2 l2=>asI_mk ?_))
 have l12:=AHeap.le_trans l1 l2
 have o2:=o1.le l2
 simp only [if_true]
 unfold F19.B3
 by_cases hg:IsG n es
 ·rw [if_pos hg] at k ⊢
  refine pif_f rfl ?_
  unfold F19.B1
  refine ldI_own o2 rfl (ld1_own o2 rfl (first_ok (h.le l12) hg fun w G lG hw=>hw _ fun b hb=>?_))
  have e:hasVal n es=!b:=by
   unfold hasVal
   cases b with
   | true=>
    have:=hb.1 rfl
    simp only [Bool.not_true,decide_eq_false_iff_not]
    exact fun h=>this h.2
   | false=>
    have:∃ c,IsC es c:=Classical.byContradiction fun hn=>by have:=hb.2 hn;cases this
    simp only [Bool.not_false,decide_eq_true_eq]
    exact ⟨hg,this⟩
  rw [← e]
  exact k G (AHeap.le_trans l12 lG)
 ·have e:hasVal n es=false:=by
   unfold hasVal
   rw [decide_eq_false_iff_not]
   exact fun h=>hg h.1
  rw [if_neg hg] at k ⊢
  rw [e] at k
  refine pif_t rfl ?_
  unfold F19.B2
  exact k H2 l12
end Go.Proofs
namespace Go.Proofs
open Go.Abs

variable {H G:AHeap} {v u w:Value} {es fs:List (Int × Int)} {K:Value→AHeap→Prop} {n:Int}

theorem has_iff' (hg:IsG n es):hasVal n es=true↔∃ c,IsC es c:=by
 unfold hasVal
 exact ⟨fun h=>(@of_decide_eq_true _ (Classical.propDecidable _) h).2,fun h=>@decide_eq_true _ (Classical.propDecidable _) ⟨hg,h⟩⟩
theorem ccn_has (hg:IsG n es):decide (ccnVal n es>0)=hasVal n es:=by
 rw [Bool.eq_iff_iff,has_iff' hg,decide_eq_true_iff,← colN_pos hg]
 unfold ccnVal
 rw [if_pos hg]
 omega
theorem od_has (h:bmCode n es=0):(odVal n es==0)=hasVal n es:=by
 obtain ⟨hg,_⟩:=bm_zero h
 obtain ⟨_,_,_,_,hz⟩:=bm_facts h
 rw [Bool.eq_iff_iff,has_iff' hg,beq_iff_eq,hz]
theorem rs_has (h:smCode n es 12=0):(rsN n es==0)=hasVal n es:=by
 have hg:=smCode_zero h
 rw [Bool.eq_iff_iff,has_iff' hg,beq_iff_eq,rsN_zero h]
theorem no_has (h:bmCode n es=4):hasVal n es=false:=by
 unfold bmCode at h
 by_cases hg:IsG n es
 ·rw [if_pos hg] at h
  by_cases hm:mats n es=[]
  ·rw [← Bool.not_eq_true,has_iff' hg]
   rintro ⟨c,hc⟩
   obtain ⟨h1,h2⟩:=class_one hg hc (x:=0) ⟨by omega,by omega⟩
   have:=mats_all hg h1 h2
   unfold mats at hm
   rw [hm] at this;cases this
  ·rw [if_neg hm] at h;cases h
 ·rw [if_neg hg] at h;cases h
theorem bm_or (hg:IsG n es):bmCode n es=0∨bmCode n es=4:=by
 unfold bmCode
 rw [if_pos hg]
 split
 ·exact .inr rfl
 ·exact .inl rfl
theorem av_graphI (h:AV T0 H 31 v):∃ n ve es,v=.agg ⟨[.int .i64 n,ve]⟩∧Edges H ve es∧es.length≤9223372036854775807:=by
 obtain ⟨n,cs,a,rfl⟩:=AV_agg h (by kernel_rfl)
 obtain ⟨m,c⟩:=AT_struct (by kernel_rfl) a
 rw [show sFields (T0 31)=[2,29] by kernel_rfl] at c
 obtain ⟨h1,h2,h3,h4,h5⟩:=c
 rw [show sz T0 2=1 by kernel_rfl] at h1 h2 h3 h4 h5
 rw [show sz T0 29=1 by kernel_rfl] at h3 h4 h5
 obtain ⟨x,hx,_⟩:=AT_i64 (by kernel_rfl) h2
 obtain ⟨ve,es,hv,he,hl⟩:=AT_edges (e:=28) (i:=2) (by kernel_rfl) (by kernel_rfl) (by kernel_rfl) (by kernel_rfl) (by kernel_rfl) h4
 refine ⟨x,ve,es,?_,he,hl⟩
 match cs,h1,h3,hx,hv,h5 with
 | [a,b],_,_,hx,hv,_=>simp at hx hv;rw [hx,hv]
 | a::b::c::r,_,_,_,_,h5=>simp [Chunked] at h5
end Go.Proofs
namespace Go.Proofs
open Go.Abs

variable {H G:AHeap} {v u w:Value} {es fs:List (Int × Int)} {K:Value→AHeap→Prop} {n:Int}

abbrev QC34:Value→AHeap→Prop:=fun v _=>v=.bool true
theorem prom_1 {x12:Int} {b:Bool} (h:decide (x12>0)=b):F6.B1 QC34 x12 b G:=by
 unfold F6.B1
 rw [h]
 show Value.bool (b==b)=.bool true
 rw [beq_self_eq_true]
theorem prom_3 (hg:IsG n es):F6.B3 QC34 (ccnVal n es) (odVal n es) (bmCode n es) (rsN n es) (smCode n es 12) (hasVal n es) G:=by
 have hc:=ccn_has hg
 have last:=prom_1 (G:=G) hc
 have sm:pif (smCode n es 12==0) (pif (!(decide (ccnVal n es>0)==(rsN n es==0))) (F6.B2 QC34 G) (F6.B1 QC34 (ccnVal n es) (hasVal n es) G)) (F6.B1 QC34 (ccnVal n es) (hasVal n es) G):=by
  refine pif_cases (fun h=>pif_f ?_ last) fun _=>last
  rw [hc,rs_has (beq_iff_eq.1 h),beq_self_eq_true];rfl
 unfold F6.B3
 rcases bm_or hg with h|h
 ·refine pif_t (beq_iff_eq.2 h) (pif_f ?_ (pif_f (by rw [h];rfl) sm))
  rw [hc,od_has h,beq_self_eq_true];rfl
 ·refine pif_f (by rw [h];rfl) (pif_t (beq_iff_eq.2 h) (pif_f ?_ sm))
  rw [hc,no_has h]
theorem prom_14 {x11:Nat} (hT:Tab G) (o:Own G x11 31 [.int .i64 n,v]) (hE:Edges G v es) (hl:es.length≤2000):F6.B14 QC34 x11 G:=by
 unfold F6.B14
 refine ldI_own o rfl (ld1_own o rfl (implCountCol_ok hE (by omega) fun G1 l1=>tup2_mk (asI_mk (asI_mk ?_))))
 have o:=o.le l1;have hE:=hE.le l1;have hT:=hT.le l1
 unfold F6.B13
 refine ldI_own o rfl (ld1_own o rfl (specCountCol_ok hE (by omega) fun G2 l2=>tup2_mk (asI_mk (asI_mk ?_))))
 have o:=o.le l2;have hE:=hE.le l2;have hT:=hT.le l2
 unfold F6.B12
 refine ldI_own o rfl (ld1_own o rfl (implOdd_ok hT hE (by omega) fun G3 l3=>tup2_mk (asI_mk (asI_mk ?_))))
 have o:=o.le l3;have hE:=hE.le l3
 unfold F6.B11
 refine ldI_own o rfl (ld1_own o rfl (specOdd_ok hE (by omega) fun G4 l4=>tup2_mk (asI_mk (asI_mk ?_))))
 have o:=o.le l4;have hE:=hE.le l4
 unfold F6.B10
 refine ldI_own o rfl (ld1_own o rfl (implRes_ok hE (by omega) fun G5 l5=>tup2_mk (asI_mk (asI_mk ?_))))
 have o:=o.le l5;have hE:=hE.le l5
 unfold F6.B9
 refine ldI_own o rfl (ld1_own o rfl (specRes_ok hE (by omega) fun G6 l6=>tup2_mk (asI_mk (asI_mk ?_))))
 have o:=o.le l6;have hE:=hE.le l6
 unfold F6.B8
 refine ldI_own o rfl (ld1_own o rfl (implHas_ok hE (by omega) fun G7 l7=>tup2_mk (asB_mk (asI_mk ?_))))
 unfold F6.B7
 refine pif_f (by simp) (pif_f (by simp) (pif_f (by simp) (pif_f (by simp) (pif_f (by simp) ?_))))
 unfold F6.B5
 refine pif_cases (fun _=>by unfold F6.B4;rfl) fun h0=>?_
 have hg:IsG n es:=by
  apply Classical.byContradiction
  intro hg
  rw [if_neg hg] at h0;cases h0
 exact prom_3 hg
theorem bgList_len (hl:es.length≤1000) {e f:Int}:(bgList n es e f).length≤2000:=by
 by_cases h:bgCode n es e f=0
 ·have:=(bg_isG h).ed.len
  have:=(bg_isG h).ed.hi
  omega
 ·unfold bgList;rw [if_neg h];simp
theorem promise_law (H:AHeap) (hT:Tab H) (vs:List Value) (hv:AVs T0 H [31,2,2] vs):AC Tryz.prog T0 6 vs H (fun v _=>v=.bool true):=by
 obtain ⟨v0,vs,rfl,a0,v1,vs,rfl,a1,v2,vs,rfl,a2,rfl⟩:=hv
 obtain ⟨n,v,es,rfl,he,hel⟩:=av_graphI a0
 obtain ⟨e,rfl,_⟩:=av_int a1
 obtain ⟨f,rfl,_⟩:=av_int a2
 apply F6.ac
 unfold F6.B24
 refine newK_f (all_iv (edges_one' he)) fun H1 l1 n1 o1=>?_
 have he:=he.le l1;have hT:=hT.le l1
 unfold F6.B23
 refine ld1_own o1 rfl (he.len (pif_cases (fun _=>by unfold F6.B22;rfl) fun hs=>?_))
 have hl:es.length≤1000:=by have:=of_decide_eq_false hs;omega
 have hbl:=bgList_len (n:=n) (e:=e) (f:=f) hl
 unfold F6.B21
 refine ldI_own o1 rfl (ld1_own o1 rfl (implBridge_ok he (by omega) fun w1 H2 l2 f2=>tup2_mk (agg2_mk (asI_mk (asI_mk (newK_f rfl fun H3 l3 n3 o3=>stK_f (new:=[.int .i64 (bgSize n es e f),w1]) o3 (by simp) (mem_iv (fresh_one f2)) rfl fun H4 b4 o4=>?_))))))
 have l34:H2.le H4:=b4.le l3 (Nat.le_refl _)
 have l24:=AHeap.le_trans l2 l34
 have o1:=o1.le l24;have he:=he.le l24;have hT:=hT.le l24
 have hE2:=f2.edges.le l34
 unfold F6.B20
 refine ldI_own o1 rfl (ld1_own o1 rfl (specBridge_ok he (by omega) fun w2 H5 l5 f5=>tup2_mk (agg2_mk (asI_mk (asI_mk (newK_f rfl fun H6 l6 n6 o6=>stK_f (new:=[.int .i64 (bgSize n es e f),w2]) o6 (by simp) (mem_iv (fresh_one f5)) rfl fun H7 b7 o7=>?_))))))
 have l67:H5.le H7:=b7.le l6 (Nat.le_refl _)
 have l57:=AHeap.le_trans l5 l67
 have o1:=o1.le l57;have he:=he.le l57;have hT:=hT.le l57;have o4:=o4.le l57
 have hE2:=hE2.le l57
 have hE5:=f5.edges.le l67
 unfold F6.B19
 refine pif_f (by simp) (ldI_own o4 rfl (ld1_own o4 rfl (ldI_own o7 rfl (ld1_own o7 rfl (graph9_ok rfl hE2 hE5 (by omega) fun H8 l8=>asB_mk (pif_f rfl ?_))))))
 have o1:=o1.le l8;have he:=he.le l8;have hT:=hT.le l8;have o4:=o4.le l8;have hE2:=hE2.le l8
 have go:∀ G,H8.le G→F6.B17 QC34 H.length H2.length (bgCode n es e f) G:=fun G lG=>by
  have o1:=o1.le lG;have he:=he.le lG;have hT:=hT.le lG;have o4:=o4.le lG;have hE2:=hE2.le lG
  unfold F6.B17
  refine ldI_own o1 rfl (ld1_own o1 rfl (newK_f rfl fun G1 m1 q1 p1=>stK_f (new:=[.int .i64 n,v]) p1 (by simp) (mem_iv (edges_one' he)) rfl fun G2 b2 p2=>?_))
  have m2:G.le G2:=b2.le m1 (Nat.le_refl _)
  unfold F6.B16
  refine pif_cases (fun h0=>?_) fun h0=>prom_14 (hT.le m2) p2 (he.le m2) (by omega)
  unfold F6.B15
  refine ldI_own (o4.le m2) rfl (ld1_own (o4.le m2) rfl (stK_f (new:=[.int .i64 (bgSize n es e f),w1]) p2 (by simp) (mem_iv (fresh_one f2)) rfl fun G3 b3 p3=>?_))
  have m3:G.le G3:=b3.le m2 (Nat.le_refl _)
  exact prom_14 (hT.le m3) p3 (hE2.le m3) (by omega)
 refine pif_cases (fun h0=>?_) fun _=>go H8 (AHeap.le_refl _)
 refine ldI_own o4 rfl (ld1_own o4 rfl (IsGraph_ok hE2 (by omega) fun H9 l9=>asB_mk (pif_f ?_ (go H9 l9))))
 rw [decide_eq_true (bg_isG (beq_iff_eq.1 h0))];rfl
end Go.Proofs
