/- Contracts and plain mathematics for a law, merged. -/
import Derived.Test.YtjljbokjpcfblaaGreatDoorX30Q2
set_option linter.unusedVariables false
set_option linter.unusedSimpArgs false
set_option maxRecDepth 100000
namespace Go.Proofs
open Go.Abs

variable {H G:AHeap} {v u f:Value} {l m c D:List Int} {es fs:List (Int × Int)} {K:Value→AHeap→Prop}

theorem sides_ok {n:Int} {s:Nat} (h:Edges H v es) (hg:IsG n es) (hs:s<2^64)
 (k:∀ v' G,H.le G→RowsF (fun b=>H.length≤b) G.length G v' (sidesL (restL es fun j=>s.testBit j) n.toNat)→K v' G) :
 AC Tryz.prog T0 99 [.agg ⟨[.int .i64 n,v]⟩,.int .u64 (s:Nat)] H K:=by
 have n0:=hg.ed.lo;have n1:=hg.ed.hi
 apply F99.ac
 unfold F99.B20
 refine newK_f (all_iv (edges_one' h)) fun H1 l1 _ o1=>?_
 unfold F99.B19 F99.B18 F99.B17
 refine ldI_own o1 rfl ?_
 obtain ⟨fs,hfs⟩:∃ fs,fs=restL es fun j=>s.testBit j:=⟨_,rfl⟩
 rw [← hfs] at k
 unfold F99.L2
 refine ⟨fun x1 x2 x5 x6 x12 x13 G=>((s:Nat):Int)=x1∧H.length=x2∧n=x12∧H1.le G∧∃ i:Nat,x13=i∧i≤n.toNat∧RowsF (fun b=>H1.length≤b) G.length G x5 (sidesTo fs n.toNat i)∧
  ∃ z:Nat,x6=((z:Nat):Int)∧z<2^64∧∀ w,z.testBit w=true↔w<n.toNat∧∃ a,a<i∧Rch (vAdj fs) a w,
  fun _ _ _ _ _ x13 _=>n.toNat-x13.toNat,⟨rfl,rfl,rfl,AHeap.le_refl _,0,rfl,by omega,.nil,0,rfl,by decide,fun w=>?_⟩,?_⟩
 ·simp
 rintro x1 x2 x5 x6 x12 x13 G ⟨rfl,rfl,rfl,hG,i,rfl,hi,hR,z,rfl,hz,hzb⟩
 have lG:=AHeap.le_trans l1 hG
 have oG:=o1.le hG
 unfold F99.B16
 refine pif_cases (fun hb=>?_) fun hb=>?_
 ·have hin:i<n.toNat:=by have:=of_decide_eq_true hb;omega
  have hzi:z.testBit i=!vLeadB fs i:=by
   rw [Bool.eq_iff_iff,hzb,Bool.not_eq_true',← Bool.not_eq_true,vLeadB_iff]
   constructor
   ·rintro ⟨_,a,h1,h2⟩ h;exact h a h1 h2
   ·intro h
    refine ⟨hin,Classical.byContradiction fun h'=>h fun b hb hr=>h' ⟨b,hb,hr⟩⟩
  unfold F99.B15 F99.B14
  refine has_ok hz (by omega) (asB_mk ?_)
  rw [Int.toNat_natCast,hzi]
  refine pif_cases (fun hb=>?_) fun hb=>?_
  ·have hl:vLeadB fs i=false:=by simpa using hb
   unfold F99.B3
   rw [wrap_id (by omega) (by omega)]
   refine ⟨⟨rfl,rfl,rfl,hG,i+1,by omega,by omega,?_,z,rfl,hz,fun w=>?_⟩,by simp;omega⟩
   ·rw [sidesTo_succ,hl];simpa using hR
   ·rw [hzb]
    refine and_congr_right fun _=>⟨fun ⟨a,h1,h2⟩=>⟨a,by omega,h2⟩,fun ⟨a,h1,h2⟩=>?_⟩
    by_cases e:a=i
    ·subst e
     have:=(hzb a).1 (by rw [hzi,hl];rfl)
     obtain ⟨_,b,g1,g2⟩:=this
     exact ⟨b,g1,g2.trans h2⟩
    ·exact ⟨a,by omega,h2⟩
  ·have hl:vLeadB fs i=true:=by simpa using hb
   unfold F99.B13 F99.B12
   refine ldI_own oG rfl (ld1_own oG rfl (distances_ok (h.le lG) hg hs hin fun b0 D G2 l2 hb0 oD hD hfar=>?_))
   rw [← hfs] at hfar
   refine lenK_of ?_
   have hG2:=AHeap.le_trans hG l2
   have hb2:=oD.lt
   have hG2':=hG2.1
   unfold F99.L5
   refine ⟨fun x1 x2 x5' x6 x8 x12 x13 x22 x23 x24 G'=>((s:Nat):Int)=x1∧H.length=x2∧x5=x5'∧n=x12∧((i:Nat):Int)=x13∧.slice (some ⟨b0,0,none⟩) n.toNat (n.toNat+1)=x22∧(n.toNat:Int)=x23∧H1.le G'∧G2.length≤G'.length∧Own G' b0 2 (LI D)∧RowsF (fun b=>H1.length≤b) G2.length G' x5 (sidesTo fs n.toNat i)∧
    ∃ t:Nat,x24=t∧t≤n.toNat∧Fresh G2.length G' x8 2 1 (LI (filtB (rchB (vAdj fs) i) t))∧∃ z':Nat,x6=((z':Nat):Int)∧z'<2^64∧∀ w,z'.testBit w=true↔z.testBit w=true∨w<t∧Rch (vAdj fs) i w,
    fun _ _ _ _ _ _ _ _ _ x24 _=>n.toNat-x24.toNat,⟨rfl,rfl,rfl,rfl,rfl,rfl,rfl,hG2,Nat.le_refl _,oD,(hR.le l2).mono (fun _ h=>h) l2.1,0,rfl,by omega,.inl ⟨rfl,.inl rfl⟩,z,rfl,hz,fun w=>by simp⟩,?_⟩
   clear oD hR lG oG hG2 hG
   rintro x1 x2 x5' x6 x8 x12 x13 x22 x23 x24 G3 ⟨rfl,rfl,rfl,rfl,rfl,rfl,rfl,hG,hGl,oD,hR,t,rfl,ht,hF,z',rfl,hz',hzb'⟩
   unfold F99.B11
   refine pif_cases (fun hb=>?_) fun hb=>?_
   ·have htn:t<n.toNat:=by have:=of_decide_eq_true hb;omega
    have hft:=hfar t htn
    have hfl:=filtB_length (rchB (vAdj fs) i) t
    unfold F99.B10
    have oi:=own_ints (c:=n.toNat+1) oD
    rw [hD] at oi
    refine oi.rd (by omega) (by omega) ?_
    rw [Int.toNat_natCast]
    unfold F99.B9
    refine pif_cases (fun hb=>?_) fun hb=>?_
    ·have hr:Rch (vAdj fs) i t:=hft.1 (of_decide_eq_true hb)
     unfold F99.B8
     refine hF.sl.pushN E_int (by decide) hGl (n:=1) (ys:=[.int .i64 t]) rfl rfl (by simp;omega) (by simp) fun v' G4 k4 ot4 nb4 f4=>?_
     unfold F99.B7
     refine ⟨by omega,?_⟩
     have p64:2^t<2^64:=Nat.pow_lt_pow_right (by decide) (by omega)
     rw [one_shl (by omega) (by omega),Int.toNat_natCast,bits_or hz' p64]
     unfold F99.B6
     rw [wrap_id (by omega) (by omega)]
     refine ⟨⟨rfl,rfl,rfl,rfl,rfl,rfl,rfl,k4.le hG (by have:=hG2';omega),by have:=k4.len;omega,k4.own oD hb2,hR.keep k4,t+1,by omega,by omega,?_,z'|||2^t,rfl,or_lt hz' p64,fun w=>?_⟩,by simp;omega⟩
     ·rw [filtB_succ,rchB_iff.2 hr];simpa using f4
     ·rw [Nat.testBit_or,Nat.testBit_two_pow,Bool.or_eq_true,hzb',decide_eq_true_iff]
      constructor
      ·rintro ((h|h)|rfl)
       ·exact .inl h
       ·exact .inr ⟨by omega,h.2⟩
       ·exact .inr ⟨by omega,hr⟩
      ·rintro (h|⟨h1,h2⟩)
       ·exact .inl (.inl h)
       ·by_cases e:t=w
        ·exact .inr e
        ·exact .inl (.inr ⟨by omega,h2⟩)
    ·have hr:¬ Rch (vAdj fs) i t:=fun h=>of_decide_eq_false hb (hft.2 h)
     unfold F99.B6
     rw [wrap_id (by omega) (by omega)]
     refine ⟨⟨rfl,rfl,rfl,rfl,rfl,rfl,rfl,hG,hGl,oD,hR,t+1,by omega,by omega,?_,z',rfl,hz',fun w=>?_⟩,by simp;omega⟩
     ·rw [filtB_succ,Bool.eq_false_iff.2 fun h=>hr (rchB_iff.1 h)];simpa using hF
     ·rw [hzb']
      refine or_congr Iff.rfl ⟨fun ⟨h1,h2⟩=>⟨by omega,h2⟩,fun ⟨h1,h2⟩=>⟨?_,h2⟩⟩
      by_cases e:t=w
      ·subst e;exact absurd h2 hr
      ·omega
   ·have htn:t=n.toNat:=by have:=of_decide_eq_false hb;omega
    subst htn
    have hsl:=sidesTo_length fs n.toNat i
    unfold F99.B4
    refine hR.push hGl (fun b hb=>by have:=hG2';omega) hF (by omega) fun v' G4 ot nb hlen hR4=>?_
    unfold F99.B3
    rw [wrap_id (by omega) (by omega)]
    refine ⟨⟨rfl,rfl,rfl,?_,i+1,by omega,by omega,?_,z',rfl,hz',fun w=>?_⟩,by simp;omega⟩
    ·refine ⟨by have:=hG.1;omega,fun b o ho=>ot b o (fun hv=>?_) (hG.2 _ _ ho)⟩
     obtain ⟨vs,_,_,q3,_⟩:=hR
     have:=(q3 b hv).1
     have:=lt_of_get ho
     omega
    ·rw [sidesTo_succ,hl];exact hR4
    ·rw [hzb',hzb]
     constructor
     ·rintro (⟨h1,a,h2,h3⟩|⟨h1,h2⟩)
      ·exact ⟨h1,a,by omega,h3⟩
      ·exact ⟨h1,i,by omega,h2⟩
     ·rintro ⟨h1,a,h2,h3⟩
      by_cases e:a=i
      ·subst e;exact .inr ⟨h1,h3⟩
      ·exact .inl ⟨h1,a,by omega,h3⟩
 ·have hin:i=n.toNat:=by have:=of_decide_eq_false hb;omega
  subst hin
  unfold F99.B1
  exact k _ _ lG (hR.mono (fun b hb=>by have:=l1.1;omega) (Nat.le_refl _))
end Go.Proofs
namespace Go.Proofs
open Go.Abs

variable {H G:AHeap} {v u f:Value} {l m c D:List Int} {es fs:List (Int × Int)} {K:Value→AHeap→Prop} {A:Nat→Prop} {B:Nat} {ls:List (List Int)}

end Go.Proofs
namespace Go.Proofs
open Go.Abs

variable {H G:AHeap} {v u f:Value} {l m c D:List Int} {es fs:List (Int × Int)} {K:Value→AHeap→Prop}

end Go.Proofs
namespace Go.Proofs
open Go.Abs

variable {H G:AHeap} {v u f:Value} {l m c D:List Int} {es fs:List (Int × Int)} {K:Value→AHeap→Prop} {A A':Nat→Prop} {B:Nat} {ls ms:List (List Int)}

end Go.Proofs
namespace Go.Proofs
open Go.Abs

variable {H G:AHeap}

end Go.Proofs
namespace Go.Proofs
open Go.Abs

variable {H G:AHeap} {v u f:Value} {l m c D:List Int} {es fs:List (Int × Int)} {K:Value→AHeap→Prop} {A:Nat→Prop} {B:Nat} {ls:List (List Int)}

end Go.Proofs
namespace Go.Proofs
open Go.Abs

variable {es:List (Int × Int)} {p q:Nat→Bool} {n:Int} {w:Int}

def cn (f:Nat→Bool):Nat→Nat
 | 0=>0
 | k+1=>cn f k+if f k then 1 else 0
theorem cn_filt (f:Nat→Bool):∀ k,(filtB f k).length=cn f k
 | 0=>rfl
 | k+1=>by rw [filtB_succ,List.length_append,cn_filt f k,cn];split <;> rfl
theorem cn_congr {f g:Nat→Bool}:∀ {k},(∀ i,i<k→f i=g i)→cn f k=cn g k
 | 0,_=>rfl
 | k+1,h=>by rw [cn,cn,cn_congr fun i hi=>h i (by omega),h k (by omega)]
theorem cn_zero {f:Nat→Bool}:∀ {k},(∀ i,i<k→f i=false)→cn f k=0
 | 0,_=>rfl
 | k+1,h=>by rw [cn,cn_zero fun i hi=>h i (by omega),h k (by omega)];rfl
theorem cn_le {f g:Nat→Bool}:∀ {k},(∀ i,i<k→f i=true→g i=true)→cn f k≤cn g k
 | 0,_=>Nat.le_refl _
 | k+1,h=>by
  have:=cn_le (k:=k) fun i hi=>h i (by omega)
  have:=h k (by omega)
  rw [cn,cn]
  cases hf:f k <;> cases hg:g k <;> simp_all
  omega
theorem cn_add {f g:Nat→Bool}:∀ {k},(∀ i,i<k→¬ (f i=true∧g i=true))→cn (fun j=>f j||g j) k=cn f k+cn g k
 | 0,_=>rfl
 | k+1,h=>by
  have:=cn_add (k:=k) fun i hi=>h i (by omega)
  have:=h k (by omega)
  rw [cn,cn,cn]
  cases hf:f k <;> cases hg:g k <;> simp_all <;> omega
theorem degB_cn (p:Nat→Bool) (w:Int):degB es p w=cn (fun j=>on (es.getD j (0,0)) w&&p j) es.length:=cn_filt _ _
theorem deg_le (h:∀ j,j<es.length→p j=true→q j=true):degB es p w≤degB es q w:=by
 rw [degB_cn,degB_cn]
 exact cn_le fun j hj hp=>by simp only [Bool.and_eq_true] at hp ⊢;exact ⟨hp.1,h j hj hp.2⟩
def sm (f:Nat→Nat):Nat→Nat
 | 0=>0
 | k+1=>sm f k+f k
theorem sm_congr {f g:Nat→Nat}:∀ {k},(∀ i,i<k→f i=g i)→sm f k=sm g k
 | 0,_=>rfl
 | k+1,h=>by rw [sm,sm,sm_congr fun i hi=>h i (by omega),h k (by omega)]
theorem sm_add (f g:Nat→Nat):∀ k,sm (fun i=>f i+g i) k=sm f k+sm g k
 | 0=>rfl
 | k+1=>by rw [sm,sm,sm,sm_add f g k];omega
theorem sm_zero:∀ k,sm (fun _=>0) k=0
 | 0=>rfl
 | k+1=>by rw [sm,sm_zero k]
theorem sm_if (f:Nat→Bool):∀ k,sm (fun i=>if f i then 1 else 0) k=cn f k
 | 0=>rfl
 | k+1=>by rw [sm,cn,sm_if f k]
theorem sm_swap (f:Nat→Nat→Nat) (m:Nat):∀ k,sm (fun i=>sm (fun j=>f i j) m) k=sm (fun j=>sm (fun i=>f i j) k) m
 | 0=>by simp only [sm];exact (sm_zero m).symm
 | k+1=>by rw [sm,sm_swap f m k,← sm_add];exact sm_congr fun i _=>by rw [sm]
theorem sm_one {a:Nat} {c:Nat}:∀ {k},a<k→sm (fun i=>if i=a then c else 0) k=c
 | k+1,h=>by
  rw [sm]
  by_cases e:a=k
  ·subst e
   rw [sm_congr (g:=fun _=>0) fun i hi=>if_neg (by omega),sm_zero];simp
  ·rw [sm_one (k:=k) (by omega),if_neg (by omega),Nat.add_zero]
structure EndsIn (n:Int) (es:List (Int × Int)):Prop where
 get:∀ j,j<es.length→∃ a b:Nat,es.getD j (0,0)=((a:Int),(b:Int))∧a≠b∧(a:Int)<n∧(b:Int)<n
theorem IsG.endsIn (h:IsG n es):EndsIn n es:=⟨fun j hj=>by
 have hm:es.getD j (0,0)∈es:=by rw [getD_of hj];exact List.getElem_mem _
 obtain ⟨h1,h2,h3,h4,h5⟩:=h.ed.ends _ hm
 refine ⟨(es.getD j (0,0)).1.toNat,(es.getD j (0,0)).2.toNat,?_,by omega,by omega,by omega⟩
 rw [Int.toNat_of_nonneg h1,Int.toNat_of_nonneg h3]⟩
theorem hands (he:EndsIn n es) (A:Nat→Bool) (p:Nat→Bool) :
 sm (fun w=>if A w then degB es p w else 0) n.toNat=sm (fun j=>if p j then (if A (es.getD j (0,0)).1.toNat then 1 else 0)+(if A (es.getD j (0,0)).2.toNat then 1 else 0) else 0) es.length:=by
 have e1:∀ w,(if A w then degB es p w else 0)=sm (fun j=>if A w&&(on (es.getD j (0,0)) w&&p j) then 1 else 0) es.length:=fun w=>by
  cases hA:A w with
  | false=>simp [sm_zero]
  | true=>rw [sm_if];simp only [Bool.true_and,if_true];rw [degB_cn]
 rw [sm_congr fun w _=>e1 w,sm_swap]
 refine sm_congr fun j hj=>?_
 obtain ⟨a,b,hab,hne,ha,hb⟩:=he.get j hj
 rw [hab]
 cases hp:p j with
 | false=>simp [sm_zero]
 | true=>
  simp only [if_true,Int.toNat_natCast,Bool.and_true]
  rw [← sm_one (a:=a) (c:=if A a then 1 else 0) (k:=n.toNat) (by omega),← sm_one (a:=b) (c:=if A b then 1 else 0) (k:=n.toNat) (by omega),← sm_add]
  refine sm_congr fun w hw=>?_
  unfold on
  by_cases h1:w=a
  ·subst h1
   simp [hne]
  ·by_cases h2:w=b
   ·subst h2
    simp [hne,h1]
   ·have g1:¬ (a:Int)=w:=by omega
    have g2:¬ (b:Int)=w:=by omega
    simp [h1,h2,g1,g2]
end Go.Proofs
namespace Go.Proofs
open Go.Abs

variable {es fs gs:List (Int × Int)} {l:List Int} {n:Int}

end Go.Proofs
namespace Go.Proofs
open Go.Abs

variable {es fs gs:List (Int × Int)} {l D:List Int} {n:Int} {p:Nat→Bool}

noncomputable def leadL (fs:List (Int × Int)) (n:Nat):List Nat:=(List.range n).filter (vLeadB fs)
theorem leadL_length (fs:List (Int × Int)) (n:Nat):(leadL fs n).length=(sidesL fs n).length:=by
 unfold leadL sidesL sidesTo;rw [List.length_map]
theorem leadL_get {n j:Nat} (hj:j<(leadL fs n).length):(sidesL fs n).getD j []=sideL fs n (leadL fs n)[j]∧(leadL fs n)[j]<n∧vLeadB fs (leadL fs n)[j]=true:=by
 have hm:=List.getElem_mem hj
 have hm2:(leadL fs n)[j]∈(List.range n).filter (vLeadB fs):=hm
 rw [List.mem_filter,List.mem_range] at hm2
 refine ⟨?_,hm2.1,hm2.2⟩
 unfold sidesL sidesTo
 have hj':j<(((List.range n).filter (vLeadB fs)).map (sideL fs n)).length:=by rw [List.length_map];exact hj
 rw [List.getD,List.getElem?_eq_getElem hj',Option.getD_some,List.getElem_map];rfl
end Go.Proofs
namespace Go.Proofs
open Go.Abs

variable {H G:AHeap} {v u f:Value} {l m c D:List Int} {es fs:List (Int × Int)} {K:Value→AHeap→Prop} {n:Int}

theorem isG_ends (hg:IsG n es):∀ e∈es,0≤e.1∧e.1<n∧0≤e.2∧e.2<n:=fun e he=>by have:=hg.ed.ends e he;omega
theorem sidesN_le (fs:List (Int × Int)) (n:Nat):(sidesL fs n).length≤n:=sidesTo_length fs n n
end Go.Proofs
namespace Go.Proofs
open Go.Abs

variable {H G:AHeap} {v u f:Value} {l m c D:List Int} {es fs:List (Int × Int)} {K:Value→AHeap→Prop} {n:Int}

end Go.Proofs
namespace Go.Proofs
open Go.Abs

variable {H G:AHeap} {v u f:Value} {l m c D:List Int} {es fs:List (Int × Int)} {K:Value→AHeap→Prop} {n:Int}

theorem side_bit {N v j:Nat} (hj:j<N):(setN (sideL fs N v)).testBit j=rchB (vAdj fs) v j:=by
  rw [setN_bit fun x hx=>by obtain ⟨y,rfl,_⟩:=mem_sideL.1 hx;omega]
  rw [Bool.eq_iff_iff,decide_eq_true_iff,mem_sideL,rchB_iff]
  exact ⟨fun ⟨y, e, _, h⟩ => by obtain rfl : j = y := by omega
                                exact h,fun h=>⟨j,rfl,hj,h⟩⟩
end Go.Proofs
namespace Go.Proofs
open Go.Abs

variable {H G:AHeap} {v u f:Value} {l m c:List Int} {es fs:List (Int × Int)} {K:Value→AHeap→Prop} {A:Nat→Prop} {B:Nat} {ls:List (List Int)}

end Go.Proofs
namespace Go.Proofs
open Go.Abs

variable {H G:AHeap} {v u f:Value} {l m c:List Int} {es fs:List (Int × Int)} {K:Value→AHeap→Prop} {A:Nat→Prop} {B:Nat} {ls:List (List Int)}

end Go.Proofs
namespace Go.Proofs
open Go.Abs

variable {H G:AHeap} {v u f:Value} {l m c:List Int} {es fs:List (Int × Int)} {K:Value→AHeap→Prop}

end Go.Proofs
namespace Go.Proofs
open Go.Abs

variable {es fs:List (Int × Int)} {l:List Int} {n:Int}

theorem sm_mul (c:Nat) (f:Nat→Nat):∀ k,sm (fun i=>c*f i) k=c*sm f k
 | 0=>rfl
 | k+1=>by rw [sm,sm,sm_mul c f k,Nat.mul_add]
end Go.Proofs
namespace Go.Proofs
open Go.Abs

variable {H G:AHeap} {v u f:Value} {l m c D:List Int} {es fs:List (Int × Int)} {K:Value→AHeap→Prop} {n:Int}

end Go.Proofs
namespace Go.Proofs
open Go.Abs

variable {H G G' Hb H0:AHeap} {v u f w:Value} {l m D:List Int} {es fs:List (Int × Int)} {K:Value→AHeap→Prop} {bs:Nat} {n:Int}

end Go.Proofs
namespace Go.Proofs
open Go.Abs

variable {H G G' Hb H0:AHeap} {v u f w:Value} {l m D:List Int} {es fs:List (Int × Int)} {K:Value→AHeap→Prop} {bs:Nat} {n:Int}

def DrwL (H:AHeap) (K:Value→AHeap→Prop):Prop:=∀ v n es w l G,H.le G→Sl H.length G v 84 2 (LE es)→Fresh H.length G w 2 1 (LI l)→es.length≤2000→l.length≤3000→-2≤n→n≤202→K (.tuple ⟨[.agg ⟨[.int .i64 n,v]⟩,w]⟩) G
theorem with_tail {x2:Nat} (k:DrwL H K) (l1:H.le G) (hx:H.length≤x2) (o:Own G x2 26 [.int .i64 0,.slice none 0 0]) (hv:Sl (x2+1) G v 84 2 (LE es)) (hw:Fresh (x2+1) G w 2 1 (LI l)) (h1:es.length≤2000) (h2:l.length≤3000) (h3:-2≤n) (h4:n≤202) :
 stK G x2 0 [.int .i64 n,v] (fun H3=>ldI .i64 H3 x2 0 (fun v4=>ld1 H3 x2 1 (fun v5=>K (.tuple ⟨[.agg ⟨[.int .i64 v4,v5]⟩,w]⟩) H3))):=
 put_graph (K:=fun v G=>K (.tuple ⟨[v,w]⟩) G) o l1 hx hv (Nat.lt_succ_self _) fun G' b' lG eG=>k v n es w l G' lG (eG.less (by omega)) ((hw.but b' (by omega)).less (by omega)) h1 h2 h3 h4
end Go.Proofs
namespace Go.Proofs
open Go.Abs

def covB (L:List (List Int)) (m:Nat):Nat→Nat→Bool
 | 0,s=>decide (fv s m=m)
 | k+1,s=>if fv s m=m then true else L.any fun l=>decide (((fv s m:Nat):Int)∈l)&&covB L m k (s|||setN l)
theorem covB_full {L:List (List Int)} {m s:Nat} (h:fv s m=m):∀ k,covB L m k s=true
 | 0=>by unfold covB;exact decide_eq_true h
 | k+1=>by unfold covB;rw [if_pos h]
theorem covB_zero {L:List (List Int)} {m s:Nat} (h:fv s m≠m):covB L m 0 s=false:=by unfold covB;exact decide_eq_false h
theorem covB_succ {L:List (List Int)} {m s k:Nat} (h:fv s m≠m):covB L m (k+1) s=L.any fun l=>decide (((fv s m:Nat):Int)∈l)&&covB L m k (s|||setN l):=by
 conv=>lhs;unfold covB
 rw [if_neg h]
theorem unseen_mono {S S':Nat→Bool} (h:∀ j,S j=true→S' j=true):∀ n,unseen S' n≤unseen S n
 | 0=>Nat.le_refl _
 | n+1=>by
  have:=unseen_mono h n
  rw [unseen,unseen]
  cases h1:S n with
  | true=>rw [h n h1];simp;omega
  | false=>split <;> simp <;> omega
theorem unseen_lt {S S':Nat→Bool} (h:∀ j,S j=true→S' j=true) {y:Nat} (h1:S y=false) (h2:S' y=true):∀ {n:Nat},y<n→unseen S' n<unseen S n
 | n+1,hy=>by
  rw [unseen,unseen]
  by_cases e:y=n
  ·subst e
   rw [h1,h2]
   have:=unseen_mono h y
   simp;omega
  ·have:=unseen_lt h h1 h2 (n:=n) (by omega)
   have hm:(if S' n=true then 0 else 1)≤(if S n=true then 0 else 1):=by
    cases hs:S n with
    | true=>rw [h n hs];simp
    | false=>split <;> simp
   omega
theorem fv_left {s n:Nat} (h:left s n=0):fv s n=n:=by
 rcases Nat.lt_or_ge (fv s n) n with h'|h'
 ·have:=unseen_ins (S:=fun j=>s.testBit j) h' (fv_at h')
  unfold left at h;omega
 ·have:=fv_le s n;omega
theorem covB_enough {L:List (List Int)} {m:Nat} (hL:∀ j,j<m→∃ l∈L,(j:Int)∈l) (hr:∀ l∈L,∀ x∈l,0≤x):∀ {k s:Nat},left s m≤k→covB L m k s=true
 | 0,s,h=>covB_full (fv_left (by omega)) 0
 | k+1,s,h=>by
  by_cases hf:fv s m=m
  ·exact covB_full hf _
  ·rw [covB_succ hf,List.any_eq_true]
   have hlt:fv s m<m:=by have:=fv_le s m;omega
   obtain ⟨l,h1,h2⟩:=hL _ hlt
   refine ⟨l,h1,?_⟩
   rw [decide_eq_true h2,Bool.true_and]
   refine covB_enough hL hr ?_
   have hb:(setN l).testBit (fv s m)=true:=by rw [setN_bit (hr l h1)];exact decide_eq_true h2
   have:=unseen_lt (S:=fun j=>s.testBit j) (S':=fun j=>(s|||setN l).testBit j) (fun j hj=>by simp only [Nat.testBit_or,hj,Bool.true_or]) (fv_at hlt) (by simp only [Nat.testBit_or,hb,Bool.or_true]) hlt
   unfold left at h ⊢
   omega
def covN (L:List (List Int)) (m:Nat):Nat→Nat→Nat
 | 0,k=>k
 | f+1,k=>if covB L m k 0 then k else covN L m f (k+1)
end Go.Proofs
namespace Go.Proofs
open Go.Abs

variable {es:List (Int × Int)} {l:List Int} {n:Int}

theorem edge_ends (hg:IsG n es) {i:Nat} (hi:i<es.length):∃ a b:Nat,es.getD i (0,0)=((a:Int),(b:Int))∧a<b∧(b:Int)<n:=by
 obtain ⟨d1,d2,d3,d4,d5⟩:=hg.ed.ends es[i] (List.getElem_mem hi)
 have up:=hg.up es[i] (List.getElem_mem hi)
 rw [← getD_of (d:=(0,0)) hi] at d1 d2 d3 d4 d5 up
 refine ⟨(es.getD i (0,0)).1.toNat,(es.getD i (0,0)).2.toNat,?_,by omega,by omega⟩
 rw [Int.toNat_of_nonneg d1,Int.toNat_of_nonneg d3]
theorem on_ab {a b x:Nat}:on ((a:Int),(b:Int)) (x:Int)=true↔x=a∨x=b:=by
 unfold on
 simp only [Bool.or_eq_true,beq_iff_eq]
 omega
theorem degC_count (hg:IsG n es) (x:Nat):∀ L:List Int,(∀ i∈L,0≤i∧i<es.length)→degC es L x=(ends es L).count (x:Int)
 | [],_=>rfl
 | i::L,hL=>by
  have hi:=hL i (by simp)
  obtain ⟨k,rfl⟩:∃ k:Nat,i=k:=⟨i.toNat,by omega⟩
  obtain ⟨a,b,e1,e2,e3⟩:=edge_ends hg (i:=k) (by omega)
  rw [degC_cons,degC_count hg x L fun j hj=>hL j (by simp [hj])]
  have:ends es ((k:Int)::L)=(a:Int)::(b:Int)::ends es L:=by
   unfold ends;rw [List.flatMap_cons,Int.toNat_natCast,e1];rfl
  rw [this,List.count_cons,List.count_cons,e1]
  by_cases h1:x=a
  ·rw [if_pos (on_ab.2 (.inl h1))]
   have h2:¬ x=b:=by omega
   simp [h1];omega
  ·by_cases h2:x=b
   ·rw [if_pos (on_ab.2 (.inr h2))]
    simp [h2];omega
   ·rw [if_neg fun h=>(on_ab.1 h).elim h1 h2]
    have g1:¬ (a:Int)=(x:Int):=by omega
    have g2:¬ (b:Int)=(x:Int):=by omega
    simp [g1,g2]
theorem mem_ends (hg:IsG n es) (hr:∀ i∈l,0≤i∧i<es.length) {y:Int} (hy:y∈ends es l):0≤y∧y<n:=by
 unfold ends at hy
 obtain ⟨i,hi,hy⟩:=List.mem_flatMap.1 hy
 have h:=hr i hi
 obtain ⟨a,b,e1,e2,e3⟩:=edge_ends hg (i:=i.toNat) (by omega)
 rw [e1] at hy
 simp only [List.mem_cons,List.not_mem_nil,or_false] at hy
 omega
theorem one_isM (hg:IsG n es) (hs:IsS l es.length) (ho:OneAt n es l):IsM n es l:=by
 have hr:=hs.range
 have hnd:(ends es l).Nodup:=by
  rw [List.nodup_iff_count]
  intro y
  by_cases hy:y∈ends es l
  ·have:=mem_ends hg hr hy
   obtain ⟨x,rfl⟩:∃ x:Nat,y=x:=⟨y.toNat,by omega⟩
   rw [← degC_count hg x l hr,ho x (by omega)]
   exact Nat.le_refl _
  ·rw [List.count_eq_zero.2 hy];omega
 have hup:(upto n.toNat).Nodup:=by
  unfold upto List.Nodup
  rw [List.pairwise_map]
  exact List.nodup_range.imp fun h e=>h (Int.ofNat.inj e)
 have h1:(ends es l).length≤n.toNat:=by
  have:=nodup_sub (m:=upto n.toNat) hnd fun y hy=>by
   have:=mem_ends hg hr hy
   unfold upto
   exact List.mem_map.2 ⟨y.toNat,List.mem_range.2 (by omega),Int.toNat_of_nonneg this.1⟩
  unfold upto at this
  rw [List.length_map,List.length_range] at this
  exact this
 have h2:n.toNat≤(ends es l).length:=by
  have:=nodup_sub (m:=ends es l) hup fun y hy=>by
   unfold upto at hy
   obtain ⟨x,hx,rfl⟩:=List.mem_map.1 hy
   rw [List.mem_range] at hx
   have h:=ho x (by omega)
   rw [degC_count hg x l hr] at h
   show (x:Int)∈ends es l
   exact List.count_pos_iff.1 (by omega)
  unfold upto at this
  rw [List.length_map,List.length_range] at this
  exact this
 have n0:=hg.ed.lo
 refine ⟨hs,hnd,?_⟩
 rw [ends_length] at h1 h2
 omega
theorem degC_pos {x:Nat} {y:Int} (hy:y∈l) (h:on (es.getD y.toNat (0,0)) x=true):0<degC es l x:=by
 unfold degC
 exact List.length_pos_of_mem (List.mem_filter.2 ⟨hy,h⟩)
theorem matL_all (hg:IsG n es):∀ {k s:Nat} {l:List Int},Asc l→(∀ x∈l,0≤x∧x<es.length)→(∀ x:Nat,x<n.toNat→degC es l x=if s.testBit x then 0 else 1)→left s n.toNat≤2*k→l∈matL es n.toNat k s:=by
 intro k
 induction k with
 | zero=>
  intro s l ha hr hd hk
  have he:fv s n.toNat=n.toNat:=fv_left (by omega)
  rw [matL_end he,List.mem_singleton]
  cases l with
  | nil=>rfl
  | cons y l=>
   have hy:=hr y (by simp)
   obtain ⟨a,b,e1,e2,e3⟩:=edge_ends hg (i:=y.toNat) (by omega)
   have:=degC_pos (l:=y::l) (y:=y) (x:=a) (by simp) (by rw [e1];exact on_ab.2 (.inl rfl))
   rw [hd a (by omega),fv_below (s:=s) (n:=n.toNat) (j:=a) (by omega)] at this
   simp at this
 | succ k ih=>
  intro s l ha hr hd hk
  by_cases he:fv s n.toNat=n.toNat
  ·rw [matL_end he,List.mem_singleton]
   cases l with
   | nil=>rfl
   | cons y l=>
    have hy:=hr y (by simp)
    obtain ⟨a,b,e1,e2,e3⟩:=edge_ends hg (i:=y.toNat) (by omega)
    have:=degC_pos (l:=y::l) (y:=y) (x:=a) (by simp) (by rw [e1];exact on_ab.2 (.inl rfl))
    rw [hd a (by omega),fv_below (s:=s) (n:=n.toNat) (j:=a) (by omega)] at this
    simp at this
  ·have hlt:fv s n.toNat<n.toNat:=by have:=fv_le s n.toNat;omega
   have hvb:=fv_at hlt
   have h1:=hd _ hlt
   rw [hvb] at h1
   have h1:degC es l (fv s n.toNat)=1:=h1
   unfold degC at h1
   obtain ⟨e,hfe⟩:=List.length_eq_one_iff.1 h1
   have hem:e∈l∧on (es.getD e.toNat (0,0)) (fv s n.toNat)=true:=by
    have:e∈l.filter fun i=>on (es.getD i.toNat (0,0)) (fv s n.toNat):=by rw [hfe];simp
    exact List.mem_filter.1 this
   have hre:=hr e hem.1
   obtain ⟨i,rfl⟩:∃ i:Nat,e=i:=⟨e.toNat,by omega⟩
   rw [Int.toNat_natCast] at hem
   have ho:=hem.2
   have hi:i<es.length:=by omega
   have cov:∀ y∈l,∀ x:Nat,x<n.toNat→on (es.getD y.toNat (0,0)) x=true→s.testBit x=false:=fun y hy x hx hon=>by
    have:=degC_pos hy hon
    rw [hd x hx] at this
    cases hb:s.testBit x with
    | false=>rfl
    | true=>rw [hb] at this;simp at this
   have hw:(othN es (i:Int) (fv s n.toNat):Int)=(es.getD i (0,0)).1+(es.getD i (0,0)).2-fv s n.toNat:=by
    obtain ⟨a,b,e1,e2,e3⟩:=edge_ends hg hi
    rw [e1] at ho
    have:=on_ab.1 ho
    unfold othN;rw [Int.toNat_natCast,e1]
    show (((a:Int)+(b:Int)-(fv s n.toNat:Int)).toNat:Int)=(a:Int)+(b:Int)-(fv s n.toNat:Int)
    omega
   obtain ⟨w,hww⟩:∃ w,w=othN es (i:Int) (fv s n.toNat):=⟨_,rfl⟩
   rw [← hww] at hw
   have hwon:on (es.getD i (0,0)) w=true∧w<n.toNat:=by
    obtain ⟨a,b,e1,e2,e3⟩:=edge_ends hg hi
    rw [e1] at ho hw ⊢
    have:=on_ab.1 ho
    have hw:(w:Int)=(a:Int)+(b:Int)-(fv s n.toNat:Int):=hw
    exact ⟨on_ab.2 (by omega),by omega⟩
   have hb:s.testBit w=false:=cov i hem.1 w hwon.2 (by rw [Int.toNat_natCast];exact hwon.1)
   have fe:=firstE hg hi ho hw hb
   have hvw:=fe.vw
   obtain ⟨l',rfl⟩:∃ l',l=(i:Int)::l':=by
    cases l with
    | nil=>cases hem.1
    | cons y l'=>
     refine ⟨l',?_⟩
     congr 1
     apply Classical.byContradiction
     intro hne
     have hyi:y<(i:Int):=by
      rcases List.mem_cons.1 hem.1 with h|h
      ·exact absurd h.symm hne
      ·unfold Asc at ha
       exact (List.pairwise_cons.1 ha).1 _ h
     have hry:=hr y (by simp)
     obtain ⟨a,b,e1,e2,e3⟩:=edge_ends hg (i:=y.toNat) (by omega)
     have hle:=srt_le hg.srt (i:=y.toNat) (j:=i) (by omega) hi
     rw [fe.fst,e1] at hle
     have hle:(a:Int)≤(fv s n.toNat:Int):=hle
     have hca:=cov y (by simp) a (by omega) (by rw [e1];exact on_ab.2 (.inl rfl))
     have hav:a=fv s n.toNat:=by
      apply Classical.byContradiction
      intro hn
      rw [fv_below (s:=s) (n:=n.toNat) (j:=a) (by omega)] at hca
      cases hca
     have:y∈((y::l').filter fun i=>on (es.getD i.toNat (0,0)) (fv s n.toNat)):=List.mem_filter.2 ⟨by simp,by rw [e1];exact on_ab.2 (.inl hav.symm)⟩
     rw [hfe,List.mem_singleton] at this
     exact hne this
   unfold matL
   rw [if_neg he,List.mem_flatMap]
   refine ⟨i,mem_atL.2 ⟨i,rfl,hi,ho⟩,?_⟩
   rw [← hww,if_neg (by rw [hb];simp),List.mem_map]
   refine ⟨l',?_,rfl⟩
   have ha':Asc l':=by unfold Asc at ha ⊢;exact (List.pairwise_cons.1 ha).2
   have hl2:=left_two (s:=s) hlt fe.wn hvb hb (by omega)
   refine ih ha' (fun x hx=>hr x (by simp [hx])) (fun x hx=>?_) (by omega)
   have hdx:=hd x hx
   rw [degC_cons] at hdx
   have hon:on (es.getD i (0,0)) x=true↔x=fv s n.toNat∨x=w:=by
    have:=fe.fst;have:=fe.snd
    unfold on
    simp only [Bool.or_eq_true,beq_iff_eq]
    omega
   rw [Nat.testBit_or,Nat.testBit_or,Nat.testBit_two_pow,Nat.testBit_two_pow]
   by_cases h1:x=fv s n.toNat
   ·rw [if_pos (hon.2 (.inl h1)),h1,hvb] at hdx
    rw [h1];simp at hdx ⊢;exact hdx
   ·by_cases h2:x=w
    ·rw [if_pos (hon.2 (.inr h2)),h2,hb] at hdx
     rw [h2];simp at hdx ⊢;exact hdx
    ·rw [if_neg fun h=>(hon.1 h).elim h1 h2] at hdx
     rw [decide_eq_false fun e=>h1 e.symm,decide_eq_false fun e=>h2 e.symm]
     simpa using hdx
theorem mats_all (hg:IsG n es) (hs:IsS l es.length) (ho:OneAt n es l):l∈matL es n.toNat 10 0:=by
 have n0:=hg.ed.lo;have n1:=hg.ed.hi
 refine matL_all hg hs.asc hs.range (fun x hx=>?_) ?_
 ·rw [ho x (by omega)];simp
 ·have:=unseen_le (fun j=>Nat.testBit 0 j) n.toNat
  unfold left;omega
end Go.Proofs
namespace Go.Proofs
open Go.Abs

variable {es:List (Int × Int)} {p:Nat→Bool} {l c O:List Int} {cs:List (List Int)} {n:Int} {e:Nat}

theorem wk_inj (hg:IsG n es) (h2:Deg2 n es p) (he:e<es.length) (hpe:p e=true) {s t:Nat} (hs:s<(compL es p e).length) (ht:t<(compL es p e).length) (h:(wk es p e s).1=(wk es p e t).1):s=t:=by
 obtain ⟨a0,w,hW⟩:=wk_walk hg h2 he hpe _ (Nat.le_refl _)
 have hn:=hW.nd
 unfold wkL List.Nodup at hn
 rw [List.pairwise_map,List.pairwise_iff_getElem] at hn
 rcases Nat.lt_trichotomy s t with h'|h'|h'
 ·refine absurd ?_ (hn s t (by simpa using hs) (by simpa using ht) h')
  rw [List.getElem_range,List.getElem_range,h]
 ·exact h'
 ·refine absurd ?_ (hn t s (by simpa using ht) (by simpa using hs) h')
  rw [List.getElem_range,List.getElem_range,h]
theorem wk_adj (hg:IsG n es) (h2:Deg2 n es p) (he:e<es.length) (hpe:p e=true) {s t x:Nat} (hst:s<t) (ht:t<(compL es p e).length) (h1:on (es.getD (wk es p e s).1 (0,0)) x=true) (h3:on (es.getD (wk es p e t).1 (0,0)) x=true):t=s+1∨(s=0∧t+1=(compL es p e).length):=by
 have hWs:=wk_walk2 hg h2 he hpe s (by omega)
 have hWt:=wk_walk2 hg h2 he hpe t (by omega)
 have hne:(wk es p e t).1≠(wk es p e s).1:=fun h=>by have:=wk_inj hg h2 he hpe ht (by omega) h;omega
 have dg:∀ {a v:Nat},a≤(compL es p e).length→on (es.getD (wk es p e a).1 (0,0)) v=true→(v:Int)<n→degB es p v=2:=fun ha ho hv=>by
  have hW:=wk_walk2 hg h2 he hpe _ ha
  exact h2 _ hv (degB_pos hW.lt hW.pn ho)
 rcases (on_iff2 hWs.onw hWs.onv hWs.ne).1 h1 with hx|hx
 ·rcases (on_iff2 hWt.onw hWt.onv hWt.ne).1 h3 with hy|hy
  ·obtain ⟨t',rfl⟩:∃ t',t=t'+1:=⟨t-1,by omega⟩
   have hW':=wk_walk2 hg h2 he hpe t' (by omega)
   have hxe:x=(wk es p e t').2:=hy
   have hvn:=hW'.vn
   have d2:=dg (a:=t') (by omega) hW'.onv hvn
   have hoj:on (es.getD (wk es p e (t'+1)).1 (0,0)) ((wk es p e t').2:Nat)=true:=by rw [← hxe];exact h3
   have a1:=nx_eq d2 hWt.lt hWt.pn hoj hWs.lt hWs.pn (fun h=>hne h.symm) (by rw [← hxe];exact h1)
   have a2:=nx_eq d2 hWt.lt hWt.pn hoj hW'.lt hW'.pn (fun h=>by have:=wk_inj hg h2 he hpe (s:=t') (by omega) ht h;omega) hW'.onv
   have:=wk_inj hg h2 he hpe (s:=s) (t:=t') (by omega) (by omega) (a1.symm.trans a2)
   left;omega
  ·have a1:=nx_eq (dg (a:=t) (by omega) hWt.onv hWt.vn) hWt.lt hWt.pn hWt.onv hWs.lt hWs.pn (fun h=>hne h.symm) (by rw [← hy];exact h1)
   have a2:(wk es p e (t+1)).1=(wk es p e s).1:=a1
   rcases Nat.lt_or_ge (t+1) (compL es p e).length with hl|hl
   ·have:=wk_inj hg h2 he hpe hl (by omega) a2
    omega
   ·have hT:t+1=(compL es p e).length:=by omega
    have hb:=wk_back hg h2 he hpe
    rw [← hT,a2] at hb
    have:(wk es p e s).1=(wk es p e 0).1:=hb
    have:=wk_inj hg h2 he hpe (s:=s) (t:=0) (by omega) (by omega) this
    exact .inr ⟨this,hT⟩
 ·have a1:=nx_eq (dg (a:=s) (by omega) hWs.onv hWs.vn) hWs.lt hWs.pn hWs.onv hWt.lt hWt.pn hne (by rw [← hx];exact h3)
  have a2:(wk es p e (s+1)).1=(wk es p e t).1:=a1
  have:=wk_inj hg h2 he hpe (by omega) ht a2
  left;omega
theorem pnt_out {y:Nat}:∀ k,(∀ t,t<k→(c.getD t 0).toNat≠y)→(pnt O c k).getD y 0=O.getD y 0
 | 0,_=>rfl
 | k+1,h=>by
  rw [pnt,getD_set_ne (h k (by omega))]
  exact pnt_out k fun t ht=>h t (by omega)
theorem pnt_in {y t:Nat} (hy:y<O.length) (ht:(c.getD t 0).toNat=y) (hn:∀ s,s<c.length→s≠t→(c.getD s 0).toNat≠y):∀ k,t<k→k≤c.length→(pnt O c k).getD y 0=1+((t%2:Nat):Int)
 | 0,h,_=>absurd h (by omega)
 | k+1,h,hk=>by
  rw [pnt]
  by_cases hkt:k=t
  ·rw [hkt,ht,getD_set_self (by rw [pnt_length];exact hy)]
  ·rw [getD_set_ne (hn k (by omega) hkt)]
   exact pnt_in hy ht hn k (by omega) (by omega)
theorem pntAll_out {y:Nat}:∀ i,(∀ j,j<i→∀ t,t<(cs.getD j []).length→((cs.getD j []).getD t 0).toNat≠y)→(pntAll O cs i).getD y 0=O.getD y 0
 | 0,_=>rfl
 | i+1,h=>by
  rw [pntAll,pnt_out _ (h i (by omega))]
  exact pntAll_out i fun j hj=>h j (by omega)
theorem pntAll_in {y j t:Nat} (hy:y<O.length) (hlt:t<(cs.getD j []).length) (ht:((cs.getD j []).getD t 0).toNat=y) (hn:∀ s,s<(cs.getD j []).length→s≠t→((cs.getD j []).getD s 0).toNat≠y):∀ i,j<i→(∀ j',j'<i→j'≠j→∀ t,t<(cs.getD j' []).length→((cs.getD j' []).getD t 0).toNat≠y)→(pntAll O cs i).getD y 0=1+((t%2:Nat):Int)
 | 0,h,_=>absurd h (by omega)
 | i+1,h,ho=>by
  rw [pntAll]
  by_cases hij:i=j
  ·subst hij
   exact pnt_in (by rw [pntAll_length];exact hy) ht hn _ hlt (Nat.le_refl _)
  ·rw [pnt_out _ (ho i (by omega) hij)]
   exact pntAll_in hy hlt ht hn i (by omega) fun j' hj'=>ho j' (by omega)
theorem wkL_get {t:Nat} {T:Nat} (h:t<T):(wkL es p e T).getD t 0=((wk es p e t).1:Int):=by
 rw [getD_of (by rw [wkL_length];exact h)]
 unfold wkL
 rw [List.getElem_map,List.getElem_range]
theorem ldr_nodup (k:Nat):(ldr es p k).Nodup:=by
 unfold ldr;exact List.Pairwise.filter _ List.nodup_range
theorem lead_uniq {a b:Nat} (ha:a<es.length∧p a=true∧cLeadB es p a=true) (hb:b<es.length∧p b=true∧cLeadB es p b=true) (h:Rch (eAdj es p) a b):a=b:=by
 rcases Nat.lt_trichotomy a b with h'|h'|h'
 ·exact absurd h (cLeadB_iff.1 hb.2.2 a h' ha.2.1)
 ·exact h'
 ·exact absurd (eRch_symm h ⟨ha.1,ha.2.1⟩) (cLeadB_iff.1 ha.2.2 b h' hb.2.1)
theorem col_cyc (hg:IsG n es) (h2:Deg2 n es p) (hO:O.length=es.length) (he:e<es.length∧p e=true∧cLeadB es p e=true) {t:Nat} (ht:t<(compL es p e).length):(pntAll O (cycW es p es.length) (cycW es p es.length).length).getD (wk es p e t).1 0=1+((t%2:Nat):Int):=by
 have hcs:=cycW_ldr (es:=es) (p:=p) es.length
 have hl:(cycW es p es.length).length=(ldr es p es.length).length:=by rw [hcs,List.length_map]
 have hget:∀ j (hj:j<(ldr es p es.length).length),(cycW es p es.length).getD j []=wkL es p (ldr es p es.length)[j] (compL es p (ldr es p es.length)[j]).length:=fun j hj=>by
  rw [getD_of (by omega)]
  simp only [hcs,List.getElem_map]
 obtain ⟨j,hj,hje⟩:=List.getElem_of_mem (mem_ldr.2 he)
 have hW:=wk_walk2 hg h2 he.1 he.2.1 t (by omega)
 have hgj:=hget j hj
 rw [hje] at hgj
 refine pntAll_in (j:=j) (by rw [hO];exact hW.lt) (by rw [hgj,wkL_length];exact ht) (by rw [hgj,wkL_get ht,Int.toNat_natCast]) (fun s hs hst=>?_) _ (by omega) fun j' hj' hne t' ht'=>?_
 ·rw [hgj,wkL_length] at hs
  rw [hgj,wkL_get hs,Int.toNat_natCast]
  exact fun h=>hst (wk_inj hg h2 he.1 he.2.1 hs ht h)
 ·have hj2:j'<(ldr es p es.length).length:=by omega
  have hg':=hget j' hj2
  have hm':=mem_ldr.1 (List.getElem_mem hj2)
  rw [hg',wkL_length] at ht'
  rw [hg',wkL_get ht',Int.toNat_natCast]
  intro h
  have hW':=wk_walk2 hg h2 hm'.1 hm'.2.1 t' (by omega)
  have r1:=hW'.rch
  rw [h] at r1
  have:(ldr es p es.length)[j']=e:=lead_uniq hm' he (r1.trans (eRch_symm hW.rch ⟨he.1,he.2.1⟩))
  rw [← hje] at this
  exact hne ((List.getElem_inj (ldr_nodup es.length)).1 this)
theorem col_mat (hg:IsG n es) (h2:Deg2 n es p) {y:Nat} (hp:p y=false):(pntAll O (cycW es p es.length) (cycW es p es.length).length).getD y 0=O.getD y 0:=by
 have hcs:=cycW_ldr (es:=es) (p:=p) es.length
 refine pntAll_out _ fun j hj t ht=>?_
 have hj2:j<(ldr es p es.length).length:=by rw [hcs,List.length_map] at hj;exact hj
 have hgj:(cycW es p es.length).getD j []=wkL es p (ldr es p es.length)[j] (compL es p (ldr es p es.length)[j]).length:=by
  rw [getD_of hj]
  simp only [hcs,List.getElem_map]
 have hm':=mem_ldr.1 (List.getElem_mem hj2)
 rw [hgj,wkL_length] at ht
 rw [hgj,wkL_get ht,Int.toNat_natCast]
 intro h
 have hW':=wk_walk2 hg h2 hm'.1 hm'.2.1 t (by omega)
 have:=hW'.pn
 rw [h,hp] at this;cases this
theorem oddSum_zero:∀ {L:List Nat},oddSum L=0→∀ x∈L,x%2=0
 | [],_,x,hx=>by cases hx
 | a::L,h,x,hx=>by
  unfold oddSum at h
  rw [List.map_cons,List.sum_cons] at h
  rcases List.mem_cons.1 hx with rfl|hx
  ·omega
  ·exact oddSum_zero (L:=L) (by unfold oddSum;omega) x hx
theorem zero_oddSum:∀ {L:List Nat},(∀ x∈L,x%2=0)→oddSum L=0
 | [],_=>rfl
 | a::L,h=>by
  unfold oddSum
  rw [List.map_cons,List.sum_cons]
  have h1:=h a (by simp)
  have h2:=zero_oddSum (L:=L) fun x hx=>h x (by simp [hx])
  unfold oddSum at h2
  omega
theorem mem_lens {x:Nat}:x∈lensTo es p es.length↔∃ e,(e<es.length∧p e=true∧cLeadB es p e=true)∧x=(compL es p e).length:=by
 rw [← cycW_lens,cycW_ldr,List.map_map,List.mem_map]
 constructor
 ·rintro ⟨e,he,rfl⟩
  exact ⟨e,mem_ldr.1 he,by simp [wkL_length]⟩
 ·rintro ⟨e,he,rfl⟩
  exact ⟨e,mem_ldr.2 he,by simp [wkL_length]⟩
theorem lead_get {y:Nat} (hy:y<es.length) (hp:p y=true):∃ e,(e<es.length∧p e=true∧cLeadB es p e=true)∧Rch (eAdj es p) e y:=by
 by_cases h:cLead es p y
 ·exact ⟨y,⟨hy,hp,cLeadB_iff.2 h⟩,.refl⟩
 ·obtain ⟨j,h1,h2,h3,h4⟩:=lead_of hp h
  exact ⟨j,⟨by omega,h2,cLeadB_iff.2 h3⟩,h4⟩
theorem wk_time (hg:IsG n es) (h2:Deg2 n es p) (he:e<es.length) (hpe:p e=true) {y:Nat} (h:Rch (eAdj es p) e y):∃ t,t<(compL es p e).length∧(wk es p e t).1=y:=by
 have hm:=(wkL_all hg h2 he hpe y).2 h
 unfold wkL at hm
 obtain ⟨t,ht,h⟩:=List.mem_map.1 hm
 rw [List.mem_range] at ht
 exact ⟨t,ht,by omega⟩
theorem one_two (ho:OneAt n es l) {i j x:Nat} (hij:i≠j) (hi:(i:Int)∈l) (hj:(j:Int)∈l) (h1:on (es.getD i (0,0)) x=true) (h2:on (es.getD j (0,0)) x=true) (hx:(x:Int)<n):False:=by
 have:=nodup_sub (l:=[(i:Int),(j:Int)]) (m:=l.filter fun i=>on (es.getD i.toNat (0,0)) x) (by simp;omega) fun y hy=>by
  simp only [List.mem_cons,List.not_mem_nil,or_false] at hy
  rcases hy with rfl|rfl
  ·exact List.mem_filter.2 ⟨hi,by rw [Int.toNat_natCast];exact h1⟩
  ·exact List.mem_filter.2 ⟨hj,by rw [Int.toNat_natCast];exact h2⟩
 have h:=ho x hx
 unfold degC at h
 rw [h] at this
 simp at this
theorem share_nat (hg:IsG n es) {i j:Nat} (hi:i<es.length) (h:share (es.getD i (0,0)) (es.getD j (0,0))):∃ x:Nat,(x:Int)<n∧on (es.getD i (0,0)) x=true∧on (es.getD j (0,0)) x=true:=by
 obtain ⟨v,h1,h2⟩:=h
 obtain ⟨a,b,e1,e2,e3⟩:=edge_ends hg hi
 have hv:0≤v∧v<n:=by
  rw [e1] at h1
  unfold on at h1
  simp only [Bool.or_eq_true,beq_iff_eq] at h1
  omega
 obtain ⟨x,rfl⟩:∃ x:Nat,v=x:=⟨v.toNat,by omega⟩
 exact ⟨x,hv.2,h1,h2⟩
theorem paint_isC (hg:IsG n es) (hs:IsS l es.length) (ho:OneAt n es l) (h0:oddN es l=0):IsC es (pntAll (List.replicate es.length 0) (cycW es (leftP l) es.length) (cycW es (leftP l) es.length).length)∧∀ x∈l,(pntAll (List.replicate es.length 0) (cycW es (leftP l) es.length) (cycW es (leftP l) es.length).length).getD x.toNat 0=0:=by
 have h2:Deg2 n es (leftP l):=fun x hx _=>left_deg hg hs ho hx
 have ev:=oddSum_zero (show oddSum (lensTo es (leftP l) es.length)=0 from h0)
 obtain ⟨C,hC⟩:∃ C,C=pntAll (List.replicate es.length 0) (cycW es (leftP l) es.length) (cycW es (leftP l) es.length).length:=⟨_,rfl⟩
 rw [← hC]
 have hCl:C.length=es.length:=by rw [hC,pntAll_length,List.length_replicate]
 have cyc:∀ {e t:Nat},(e<es.length∧leftP l e=true∧cLeadB es (leftP l) e=true)→t<(compL es (leftP l) e).length→C.getD (wk es (leftP l) e t).1 0=1+((t%2:Nat):Int):=fun he ht=>by
  rw [hC];exact col_cyc hg h2 (by simp) he ht
 have mat:∀ {y:Nat},leftP l y=false→C.getD y 0=0:=fun {y} hp=>by
  rw [hC,col_mat hg h2 hp]
  by_cases hy:y<es.length <;> simp [List.getD,List.getElem?_replicate,hy]
 have pos:∀ {y:Nat},y<es.length→leftP l y=true→∃ t:Nat,C.getD y 0=1+((t%2:Nat):Int):=fun {y} hy hp=>by
  obtain ⟨e,he,hr⟩:=lead_get hy hp
  obtain ⟨t,ht,rfl⟩:=wk_time hg h2 he.1 he.2.1 hr
  exact ⟨t,cyc he ht⟩
 have inl:∀ {y:Nat},leftP l y=false→(y:Int)∈l:=fun {y} hp=>by
  unfold leftP at hp
  exact (bitB_mem hs y).1 (by simpa using hp)
 refine ⟨⟨hCl,fun x hx=>?_,fun j hj i hij hsh=>?_⟩,fun x hx=>?_⟩
 ·obtain ⟨y,hy,rfl⟩:=List.getElem_of_mem hx
  rw [← getD_of (d:=0) hy]
  cases hp:leftP l y with
  | false=>rw [mat hp];omega
  | true=>obtain ⟨t,ht⟩:=pos (by omega) hp;rw [ht];omega
 ·obtain ⟨x,hx,o1,o2⟩:=share_nat hg (by omega) hsh
  cases hpi:leftP l i with
  | false=>
   rw [mat hpi]
   cases hpj:leftP l j with
   | false=>exact (one_two ho (by omega) (inl hpi) (inl hpj) o1 o2 hx).elim
   | true=>obtain ⟨t,ht⟩:=pos hj hpj;rw [ht];omega
  | true=>
   cases hpj:leftP l j with
   | false=>obtain ⟨t,ht⟩:=pos (show i<es.length by omega) hpi;rw [ht,mat hpj];omega
   | true=>
    obtain ⟨e,he,hr⟩:=lead_get (show i<es.length by omega) hpi
    have hr2:Rch (eAdj es (leftP l)) e j:=.step hr ⟨hj,hpj,hsh⟩
    obtain ⟨s,hs',es1⟩:=wk_time hg h2 he.1 he.2.1 hr
    obtain ⟨t,ht',et1⟩:=wk_time hg h2 he.1 he.2.1 hr2
    have hT:=ev _ (mem_lens.2 ⟨e,he,rfl⟩)
    rw [← es1,← et1,cyc he hs',cyc he ht']
    rw [← es1] at o1
    rw [← et1] at o2
    rcases Nat.lt_trichotomy s t with h|h|h
    ·rcases wk_adj hg h2 he.1 he.2.1 h ht' o1 o2 with h'|h' <;> omega
    ·subst h;omega
    ·rcases wk_adj hg h2 he.1 he.2.1 h hs' o2 o1 with h'|h' <;> omega
 ·have hr:=hs.range x hx
  have:leftP l x.toNat=false:=by
   unfold leftP
   rw [Bool.not_eq_false',bitB_mem hs]
   rw [show ((x.toNat:Nat):Int)=x by omega];exact hx
  exact mat this
end Go.Proofs
namespace Go.Proofs
open Go.Abs

variable {H G:AHeap} {v u f w:Value} {l m c:List Int} {es fs:List (Int × Int)} {K:Value→AHeap→Prop} {ls L:List (List Int)} {bm:Nat}

end Go.Proofs
namespace Go.Proofs
open Go.Abs

variable {l m c:List Int} {es fs:List (Int × Int)} {ls L:List (List Int)} {n:Int}

theorem filtB_and (f p:Nat→Bool):∀ k,filtB (fun j=>f j&&p j) k=(filtB f k).filter fun i=>p i.toNat
 | 0=>rfl
 | k+1=>by
  rw [filtB_succ,filtB_succ,List.filter_append,filtB_and f p k]
  cases hf:f k <;> cases hp:p k <;> simp [hp]
theorem list3 {α:Type} {l:List α} (h:l.length=3):∃ a b c,l=[a,b,c]:=by
 match l,h with
 | [a,b,c],_=>exact ⟨a,b,c,rfl⟩
theorem col_deg (hg:IsG n es) (hc:IsC es c) {w:Nat} (hw:(w:Int)<n) {x:Int} (hx:0≤x∧x≤2):degB es (fun j=>c.getD j 0==x) w=1:=by
 have h3:=hg.three (v:=(w:Int)) (by omega) hw
 have ha:Asc (atL es (w:Int)):=filtB_asc _ _
 obtain ⟨i,j,k,e⟩:=list3 h3
 have hd:degB es (fun j=>c.getD j 0==x) w=((atL es (w:Int)).filter fun i=>c.getD i.toNat 0==x).length:=by
  unfold degB
  rw [filtB_and];rfl
 rw [hd,e]
 rw [e] at ha
 unfold Asc at ha
 simp only [List.pairwise_cons,List.mem_cons,List.not_mem_nil,or_false,forall_eq_or_imp,forall_eq] at ha
 have mem:∀ y∈atL es (w:Int),∃ q:Nat,y=q∧q<es.length∧on (es.getD q (0,0)) w=true:=fun y hy=>mem_atL.1 hy
 obtain ⟨i',hi,hi2,hi3⟩:=mem i (by rw [e];simp)
 obtain ⟨j',hj,hj2,hj3⟩:=mem j (by rw [e];simp)
 obtain ⟨k',hk,hk2,hk3⟩:=mem k (by rw [e];simp)
 have c1:=hc.col j' hj2 i' (by omega) ⟨w,hi3,hj3⟩
 have c2:=hc.col k' hk2 i' (by omega) ⟨w,hi3,hk3⟩
 have c3:=hc.col k' hk2 j' (by omega) ⟨w,hj3,hk3⟩
 have r1:=hc.get i'
 have r2:=hc.get j'
 have r3:=hc.get k'
 subst hi;subst hj;subst hk
 have:(c.getD i' 0=x∧c.getD j' 0≠x∧c.getD k' 0≠x)∨(c.getD i' 0≠x∧c.getD j' 0=x∧c.getD k' 0≠x)∨(c.getD i' 0≠x∧c.getD j' 0≠x∧c.getD k' 0=x):=by omega
 rcases this with ⟨a1,a2,a3⟩|⟨a1,a2,a3⟩|⟨a1,a2,a3⟩
 ·simp only [List.filter_cons,List.filter_nil,Int.toNat_natCast,beq_iff_eq.2 a1,beq_eq_false_iff_ne.2 a2,beq_eq_false_iff_ne.2 a3];rfl
 ·simp only [List.filter_cons,List.filter_nil,Int.toNat_natCast,beq_eq_false_iff_ne.2 a1,beq_iff_eq.2 a2,beq_eq_false_iff_ne.2 a3];rfl
 ·simp only [List.filter_cons,List.filter_nil,Int.toNat_natCast,beq_eq_false_iff_ne.2 a1,beq_eq_false_iff_ne.2 a2,beq_iff_eq.2 a3];rfl
noncomputable def chB (es:List (Int × Int)) (c:List Int) (e:Nat) (b:Int) (j:Nat):Bool:=rchB (eAdj es (chP c e b)) e j
theorem chB_in {e:Nat} {b:Int} (he:e<es.length) {j:Nat} (h:chB es c e b j=true):j<es.length∧(c.getD j 0=c.getD e 0∨c.getD j 0=b):=by
 have h0:chP c e b e=true:=by unfold chP;simp
 have:=eRch_in (rchB_iff.1 h) ⟨he,h0⟩
 refine ⟨this.1,?_⟩
 have h2:=this.2
 unfold chP at h2
 simpa using h2
theorem chain_even (hg:IsG n es) (hc:IsC es c) {e:Nat} {b:Int} (he:e<es.length) (hb:0≤b∧b≤2) (hne:b≠c.getD e 0):cn (chB es c e b) es.length%2=0:=by
 have n0:=hg.ed.lo
 obtain ⟨a,ha⟩:∃ a,a=c.getD e 0:=⟨_,rfl⟩
 have ra:0≤a∧a≤2:=by rw [ha];exact hc.get e
 have half:∀ x,(x=a∨x=b)→2*cn (fun j=>chB es c e b j&&c.getD j 0==x) es.length=cn (fun w=>@decide (∃ j,j<es.length∧chB es c e b j=true∧on (es.getD j (0,0)) w=true) (Classical.propDecidable _)) n.toNat:=by
  intro x hx
  have rx:0≤x∧x≤2:=by rcases hx with rfl|rfl <;> assumption
  have h:=hands hg.endsIn (fun w=>@decide (∃ j,j<es.length∧chB es c e b j=true∧on (es.getD j (0,0)) w=true) (Classical.propDecidable _)) (fun j=>chB es c e b j&&c.getD j 0==x)
  have e1:∀ w,w<n.toNat→(if @decide (∃ j,j<es.length∧chB es c e b j=true∧on (es.getD j (0,0)) w=true) (Classical.propDecidable _) then degB es (fun j=>chB es c e b j&&c.getD j 0==x) w else 0)=if @decide (∃ j,j<es.length∧chB es c e b j=true∧on (es.getD j (0,0)) w=true) (Classical.propDecidable _) then 1 else 0:=by
   intro w hw
   by_cases hA:∃ j,j<es.length∧chB es c e b j=true∧on (es.getD j (0,0)) w=true
   ·rw [if_pos (by simpa using hA),if_pos (by simpa using hA)]
    obtain ⟨j,j1,j2,j3⟩:=hA
    rw [← col_deg hg hc (w:=w) (by omega) rx]
    refine Nat.le_antisymm (deg_le fun q _ hq=>?_) ?_
    ·rw [Bool.and_eq_true] at hq;exact hq.2
    ·rw [degB_cn,degB_cn]
     refine cn_le fun q hq h=>?_
     rw [Bool.and_eq_true] at h ⊢
     refine ⟨h.1,?_⟩
     rw [Bool.and_eq_true]
     refine ⟨?_,h.2⟩
     have hqx:=beq_iff_eq.1 h.2
     refine rchB_iff.2 (.step (rchB_iff.1 j2) ⟨hq,?_,w,j3,h.1⟩)
     unfold chP
     rcases hx with rfl|rfl
     ·rw [hqx,← ha];simp
     ·rw [hqx];simp
   ·rw [if_neg (by simpa using hA),if_neg (by simpa using hA)]
  have e2:∀ j,j<es.length→(if (chB es c e b j&&c.getD j 0==x)=true then (if @decide (∃ q,q<es.length∧chB es c e b q=true∧on (es.getD q (0,0)) ((es.getD j (0,0)).1.toNat:Nat)=true) (Classical.propDecidable _) then 1 else 0)+(if @decide (∃ q,q<es.length∧chB es c e b q=true∧on (es.getD q (0,0)) ((es.getD j (0,0)).2.toNat:Nat)=true) (Classical.propDecidable _) then 1 else 0) else 0)=2*(if (chB es c e b j&&c.getD j 0==x)=true then 1 else 0):=by
   intro j hj
   obtain ⟨p,q,hpq,_⟩:=hg.endsIn.get j hj
   by_cases hjc:(chB es c e b j&&c.getD j 0==x)=true
   ·rw [if_pos hjc,if_pos hjc]
    have h1:=(Bool.and_eq_true _ _▸hjc).1
    have o1:∃ q,q<es.length∧chB es c e b q=true∧on (es.getD q (0,0)) ((es.getD j (0,0)).1.toNat:Nat)=true:=⟨j,hj,h1,by rw [hpq];simp [on]⟩
    have o2:∃ q,q<es.length∧chB es c e b q=true∧on (es.getD q (0,0)) ((es.getD j (0,0)).2.toNat:Nat)=true:=⟨j,hj,h1,by rw [hpq];simp [on]⟩
    rw [if_pos (by simpa using o1),if_pos (by simpa using o2)]
   ·rw [if_neg hjc,if_neg hjc]
  have h1:=(sm_congr e1).symm.trans (h.trans (sm_congr e2))
  rw [sm_mul,sm_if,sm_if] at h1
  exact h1.symm
 have ha2:=half a (.inl rfl)
 have hb2:=half b (.inr rfl)
 have hsum:cn (chB es c e b) es.length=cn (fun j=>chB es c e b j&&c.getD j 0==a) es.length+cn (fun j=>chB es c e b j&&c.getD j 0==b) es.length:=by
  rw [← cn_add fun j _=>?_]
  ·refine cn_congr fun j hj=>?_
   rw [Bool.eq_iff_iff,Bool.or_eq_true,Bool.and_eq_true,Bool.and_eq_true,beq_iff_eq,beq_iff_eq]
   constructor
   ·intro h
    rcases (chB_in he h).2 with q|q
    ·exact .inl ⟨h,by rw [q,ha]⟩
    ·exact .inr ⟨h,q⟩
   ·rintro (h|h) <;> exact h.1
  ·rw [Bool.and_eq_true,Bool.and_eq_true,beq_iff_eq,beq_iff_eq]
   rintro ⟨h1,h2⟩
   exact hne (by rw [← h2.2,h1.2,ha])
 omega
end Go.Proofs
namespace Go.Proofs
open Go.Abs

variable {H G:AHeap} {v u f:Value} {l m c D:List Int} {es fs:List (Int × Int)} {K:Value→AHeap→Prop} {A A':Nat→Prop} {B:Nat} {ls ms:List (List Int)}

def over60 (d:List (List Int)):Bool:=decide (d.length>60)
theorem over60_any:∀ (a d:List (List Int)),d.length≤60→anyD over60 d a=decide (d.length+a.length>60)
 | [],d,h=>by unfold anyD;symm;rw [decide_eq_false_iff_not];simp;omega
 | x::a,d,h=>by
  rw [anyD]
  by_cases hx:d.length+1>60
  ·have:over60 (d++[x])=true:=by unfold over60;simp;omega
   rw [this,Bool.true_or];symm;rw [decide_eq_true_iff,List.length_cons];omega
  ·have:over60 (d++[x])=false:=by unfold over60;simp;omega
   rw [this,Bool.false_or,over60_any a (d++[x]) (by simp;omega)]
   simp only [List.length_append,List.length_cons,List.length_nil]
   congr 1
   rw [eq_iff_iff];omega
theorem listed_ok {n:Int} (hg:IsG n es) (hT:Tab H) (h:Edges H v es)
 (k:∀ w G,H.le G→Fresh H.length G w 45 1 (LU ((upToD over60 [] (mats n es)).map setN))→K (.tuple ⟨[w,.bool (!(decide ((mats n es).length>60)))]⟩) G):AC Tryz.prog T0 37 [.agg ⟨[.int .i64 n,v]⟩] H K:=by
 have hrow:=mats_row hg
 have h30:es.length≤30:=by have:=hg.ed.len;have:=hg.ed.hi;omega
 apply F37.ac
 unfold F37.B4
 refine newK_f (all_iv (edges_one' h)) fun H1 l1 n1 o1=>?_
 unfold F37.B3
 refine newK_f rfl fun H2 l2 n2 o2=>?_
 obtain ⟨co,hco⟩:∃ co,co=H1.length:=⟨_,rfl⟩
 rw [← hco] at o2 ⊢
 have l12:=AHeap.le_trans l1 l2
 have b1:=l1.1
 have o12:=o1.le l2
 have hml:=mats_length hg
 unfold F37.B2
 refine ldI_own o12 rfl (ld1_own o12 rfl (matchings_ok hg (H0:=H) (Pv0:=fun x=>x=co) (q:=over60)
  (J:=fun done Pv G=>∃ w,Own G co 56 [w]∧Fresh (co+1) G w 45 1 (LU (done.map setN))∧(∀ x,Pv x↔(x=co∨bk w=some x))∧co+1≤G.length)
  h l12 (fun x hx=>by omega) hT rfl ⟨_,o2,.inl ⟨rfl,.inl rfl⟩,fun x=>⟨.inl,fun h=>h.elim id fun h=>by cases h⟩,by omega⟩ ?_ ?_ ?_ ?_))
 ·rintro done Pv G G2 ⟨w,h1,h2,h3,h4⟩ hle
  exact ⟨w,h1.le hle,h2.le hle,h3,by have:=hle.1;omega⟩
 ·rintro done Pv G x ⟨w,h1,h2,h3,h4⟩ hx
  rcases (h3 x).1 hx with rfl|hb
  ·exact h1.lt
  ·exact (h2.bk_lt hb).2
 ·rintro done Pv l G ⟨w,h1,h2,h3,h4⟩ hF hlm hdn K hK
  have hsl:setN l<2^64:=setN_lt fun x hx=>by have:=(hrow l hlm).1.range x hx;omega
  refine callV_mk ?_
  apply F69.ac
  unfold F69.B3 F69.B2
  refine asP_mk (ld1_own h1 rfl ?_)
  refine h2.sl.pushN E_set (by decide) h4 (n:=1) (ys:=[.int .u64 (setN l:Nat)]) rfl rfl (by simp;omega) (by simp) fun v' G2 k2 ot nb f2=>?_
  have v1:v'.oneCell'=true:=by
   rcases f2 with ⟨_,rfl|⟨a,rfl⟩⟩|⟨b,n',_,rfl,_⟩ <;> rfl
  have oc2:=k2.own h1 (by omega)
  refine pif_t v1 (asP_mk (stK_f oc2 (by simp) (by simpa using v1) rfl fun G3 b3 o3=>?_))
  have f3:=f2.but b3 (by omega)
  have o3:Own G3 co 56 [v']:=by simpa using o3
  unfold F69.B1
  refine asP_mk (ld1_own o3 rfl (f3.sl.len (by decide) (n:=done.length+1) (by simp) ?_))
  have e:decide ((((done.length+1:Nat):Int):Int)>60)=over60 (done++[l]):=by
   unfold over60;rw [List.length_append,List.length_singleton];congr 1;rw [eq_iff_iff];omega
  rw [e]
  refine hK G3 (fun x=>x=co∨bk v'=some x) ⟨v',o3,by rw [List.map_append];simpa using f3,fun x=>Iff.rfl,by rw [b3.len];have:=k2.len;omega⟩ ⟨by rw [b3.len];exact k2.len,fun x hx=>?_,fun x o hx ho=>?_⟩
  ·rcases hx with rfl|hx
   ·exact .inl ((h3 x).2 (.inl rfl))
   ·exact .inr (nb x hx)
  ·have hn:¬ (x=co∨bk w=some x):=fun h=>hx ((h3 x).2 h)
   rw [b3.same x (fun e=>hn (.inl e))]
   exact ot x o (fun e=>hn (.inr e)) ho
 ·rintro G Pv ⟨w,h1,h2,h3,h4⟩ hF
  have hbG:=(hF.base l12 (fun x hx=>by omega)).1
  refine asB_mk ?_
  unfold F37.B1
  refine ld1_own h1 rfl ?_
  have e:=over60_any (mats n es) [] (by simp)
  rw [List.length_nil,Nat.zero_add] at e
  rw [e]
  exact k w G hbG (h2.less (by omega))
end Go.Proofs
namespace Go.Proofs
open Go.Abs

variable {H G:AHeap} {v u f:Value} {l m c D:List Int} {es fs:List (Int × Int)} {K:Value→AHeap→Prop} {A A':Nat→Prop} {B:Nat} {ls ms:List (List Int)}

noncomputable def tiBoolE:TI:=(T0 4).getD ⟨.bool,0,0,undef⟩
theorem E_bool:Elem T0 4 1:=⟨tiBoolE,by kernel_rfl,by kernel_rfl,of_decide_eq_true (by kernel_rfl),by kernel_rfl⟩
def CovS (s m:Nat) (S:List Bool):Prop:=S.length=m∧∀ j,j<m→S.getD j false=s.testBit j
theorem CovS.set {s m:Nat} {S:List Bool} (h:CovS s m S) {y:Nat} (hy:y<m):CovS (s|||2^y) m (S.set y true):=by
 obtain ⟨h1,h2⟩:=h
 refine ⟨by simp [h1],fun j hj=>?_⟩
 rw [setB (by omega)]
 simp only [insB,Nat.testBit_or,Nat.testBit_two_pow,h2 j hj]
theorem setN_take_or {l:List Int} {t:Nat} (h:t<l.length) (s:Nat):s|||setN (l.take (t+1))=s|||setN (l.take t)|||2^(l.getD t 0).toNat:=by
 rw [setN_take h,getD_of h,Nat.or_assoc]
theorem l04Cover_ok {n:Int} {H0:AHeap} (he:Edges H0 v es) (h1m:0<es.length) (h30:es.length≤30) {L:List (List Int)} (hL:L.length≤1000000) (hLr:∀ l∈L,IsS l es.length∧l.length≤30) {B0:Nat} (hR0:RowsF A B0 H0 u L) (hB0:B0≤H0.length) :
 ∀ (k s:Nat) (S:List Bool) (H:AHeap) (K:Value→AHeap→Prop) (q:Value),k≤1000→H0.le H→CovS s es.length S→Fresh 0 H q 4 1 (LB S)→(∀ G,H.le G→K (.bool (covB L es.length k s)) G)→AC Tryz.prog T0 45 [.agg ⟨[.int .i64 n,v]⟩,u,q,.int .i64 (k:Nat)] H K:=by
 obtain ⟨m,hm⟩:∃ m,m=es.length:=⟨_,rfl⟩
 rw [← hm] at h1m h30 hLr ⊢
 have step:∀ (k s:Nat) (S:List Bool) (H:AHeap) (K:Value→AHeap→Prop) (q:Value),k≤1000→
  (0<k→∀ (s':Nat) (S':List Bool) (H':AHeap) (K':Value→AHeap→Prop) (q':Value),H0.le H'→CovS s' m S'→Fresh 0 H' q' 4 1 (LB S')→(∀ G,H'.le G→K' (.bool (covB L m (k-1) s')) G)→AC Tryz.prog T0 45 [.agg ⟨[.int .i64 n,v]⟩,u,q',.int .i64 ((k-1:Nat):Int)] H' K')→
  H0.le H→CovS s m S→Fresh 0 H q 4 1 (LB S)→(∀ G,H.le G→K (.bool (covB L m k s)) G)→AC Tryz.prog T0 45 [.agg ⟨[.int .i64 n,v]⟩,u,q,.int .i64 (k:Nat)] H K:=by
  intro k s S H K q hk rec h0 hS hq kk
  have hSl:=hS.1
  apply F45.ac
  unfold F45.B21
  refine newK_f (all_iv (edges_one' (he.le h0))) fun H1 l1 _ o1=>?_
  have h01:=AHeap.le_trans h0 l1
  have hq1:=hq.le l1
  have hl1:=l1.1
  obtain ⟨w,hw⟩:∃ w,w=fv s m:=⟨_,rfl⟩
  have main:F45.B16 K u q (k:Nat) H.length ((w:Nat):Int) H1:=by
   unfold F45.B16
   refine hq1.sl.len (by decide) (n:=m) (by simp [hSl]) ?_
   by_cases hfu:w=m
   ·refine pif_t (by simp [hfu]) ?_
    unfold F45.B15
    have kk:=kk _ l1
    rw [covB_full (by omega)] at kk
    exact kk
   have hwm:w<m:=by have:=fv_le s m;omega
   have hne:fv s m≠m:=by omega
   refine pif_f (by rw [beq_eq_false_iff_ne];omega) ?_
   unfold F45.B14 F45.L2
   refine ⟨fun x1 x2 x3 x4 x9 x10 G=>u=x1∧q=x2∧((k:Nat):Int)=x3∧H.length=x4∧((w:Nat):Int)=x9∧H1.le G∧∃ i:Nat,x10=i∧i≤L.length∧∀ j,j<i→(decide ((w:Int)∈L.getD j [])&&covB L m (k-1) (s|||setN (L.getD j [])))=false,fun _ _ _ _ _ x10 _=>L.length-x10.toNat,
    ⟨rfl,rfl,rfl,rfl,rfl,AHeap.le_refl _,0,rfl,by omega,fun j hj=>absurd hj (by omega)⟩,?_⟩
   rintro x1 x2 x3 x4 x9 x10 G ⟨rfl,rfl,rfl,rfl,rfl,hG,i,rfl,hi,hno⟩
   have h0G:=AHeap.le_trans h01 hG
   have lG:=AHeap.le_trans l1 hG
   have hRG:=hR0.le h0G
   have oG:=o1.le hG
   have fin0:(k=0∨i=L.length)→F45.B1 K G:=by
    intro h
    unfold F45.B1
    have kk:=kk _ lG
    rcases Nat.eq_zero_or_pos k with h0|h0
    ·subst h0;rw [covB_zero hne] at kk;exact kk
    ·obtain ⟨k',rfl⟩:∃ k',k=k'+1:=⟨k-1,by omega⟩
     have hiL:i=L.length:=h.elim (fun h=>absurd h (by omega)) id
     have:covB L m (k'+1) s=false:=by
      rw [covB_succ hne,← hw,List.any_eq_false]
      intro l hl
      obtain ⟨j,hj,rfl⟩:=List.getElem_of_mem hl
      have:=hno j (by omega)
      rw [getD_of hj] at this
      rw [Nat.add_sub_cancel] at this
      rw [this];decide
     rw [this] at kk;exact kk
   unfold F45.B13
   refine hRG.len (pif_cases (fun hb=>?_) fun hb=>?_)
   ·have hil:i<L.length:=by have:=of_decide_eq_true hb;omega
    refine pif_cases (fun hb=>?_) fun hb=>?_
    ·have hk0:0<k:=by have:=of_decide_eq_true hb;omega
     obtain ⟨hls,hll⟩:=hLr _ (List.getElem_mem hil)
     rw [← getD_of (d:=[]) hil] at hls hll
     have nxt:(decide ((w:Int)∈L.getD i [])&&covB L m (k-1) (s|||setN (L.getD i [])))=false→∀ j,j<i+1→(decide ((w:Int)∈L.getD j [])&&covB L m (k-1) (s|||setN (L.getD j [])))=false:=by
      intro h j hj
      by_cases e:j=i
      ·subst e;exact h
      ·exact hno j (by omega)
     unfold F45.B12
     refine hRG.row hil fun r hr=>l04Has_ok hr.ints (by omega) (asB_mk (pif_cases (fun hb=>?_) fun hb=>?_))
     ·have hni:decide ((w:Int)∈L.getD i [])=false:=by simpa using hb
      unfold F45.B3
      rw [wrap_id (by omega) (by omega)]
      exact ⟨⟨rfl,rfl,rfl,rfl,rfl,hG,i+1,by omega,by omega,nxt (by rw [hni];rfl)⟩,by show L.length-((i:Int)+1).toNat<L.length-(i:Int).toNat;omega⟩
     ·have hin:decide ((w:Int)∈L.getD i [])=true:=by simpa using hb
      have hqG:=hq1.le hG
      unfold F45.B11
      refine newK_f rfl fun G2 l2 n2 o2=>?_
      have f2:Fresh G.length G2 (.slice (some ⟨G.length,0,none⟩) 0 (0+1)) 4 1 []:=.inr ⟨_,0,Nat.le_refl _,rfl,o2,rfl⟩
      have go:∀ q3 G3,G.le G3→Fresh G.length G3 q3 4 1 (LB S)→F45.B10 K (fun x1 x2 x3 x4 x9 x10 G'=>(u=x1∧q=x2∧((k:Nat):Int)=x3∧H.length=x4∧((w:Nat):Int)=x9∧H1.le G'∧∃ i:Nat,x10=i∧i≤L.length∧∀ j,j<i→(decide ((w:Int)∈L.getD j [])&&covB L m (k-1) (s|||setN (L.getD j [])))=false)∧L.length-x10.toNat<L.length-(i:Int).toNat) u q (k:Nat) H.length (w:Nat) i q3 G3:=by
       intro q3 G3 l3 f3
       obtain ⟨b0,hb0,rfl,oB⟩:=own_ne (b:=0) f3 (n:=m) (by simp [hSl]) h1m
       unfold F45.B10 F45.L6
       refine ⟨fun x1 x2 x3 x4 x9 x10 x11 x12 G'=>u=x1∧q=x2∧((k:Nat):Int)=x3∧H.length=x4∧((w:Nat):Int)=x9∧(i:Int)=x10∧.slice (some ⟨b0,0,none⟩) m (m+1)=x11∧G.le G'∧∃ t:Nat,x12=t∧t≤(L.getD i []).length∧∃ S',Own G' b0 4 (LB S')∧CovS (s|||setN ((L.getD i []).take t)) m S',fun _ _ _ _ _ _ _ x12 _=>(L.getD i []).length-x12.toNat,
        ⟨rfl,rfl,rfl,rfl,rfl,rfl,rfl,l3,0,rfl,by omega,S,oB,by simpa [setN] using hS⟩,?_⟩
       clear f3 l3 oB
       rintro x1 x2 x3 x4 x9 x10 x11 x12 G4 ⟨rfl,rfl,rfl,rfl,rfl,rfl,rfl,hG4,t,rfl,ht,S',oB,hS'⟩
       have h0G4:=AHeap.le_trans h0G hG4
       have hR4:=hR0.le h0G4
       unfold F45.B9
       refine hR4.row hil fun r hr=>hr.ints.len (pif_cases (fun hb=>?_) fun hb=>?_)
       ·have htl:t<(L.getD i []).length:=by have:=of_decide_eq_true hb;omega
        have hx:=hls.range _ (List.getElem_mem htl)
        rw [← getD_of (d:=0) htl] at hx
        have hS'l:=hS'.1
        unfold F45.B8
        refine hR4.row hil fun r hr=>hr.ints.rd (by omega) (by omega) ?_
        rw [Int.toNat_natCast]
        refine own_idx (by omega) (by omega) (stK_1 oB (by rw [List.length_map];omega) rfl fun G5 b5 o5=>?_)
        rw [← List.map_set] at o5
        unfold F45.B7
        rw [wrap_id (by omega) (by omega)]
        refine ⟨⟨rfl,rfl,rfl,rfl,rfl,rfl,rfl,b5.le hG4 hb0,t+1,by omega,by omega,_,o5,?_⟩,by show (L.getD i []).length-((t:Int)+1).toNat<(L.getD i []).length-(t:Int).toNat;omega⟩
        rw [setN_take_or htl]
        exact hS'.set (by omega)
       ·have htl:t=(L.getD i []).length:=by have:=of_decide_eq_false hb;omega
        subst htl
        rw [List.take_length] at hS'
        have hS'l:=hS'.1
        unfold F45.B5
        rw [wrap_id (by omega) (by omega),show ((k:Nat):Int)-1=((k-1:Nat):Int) by omega]
        refine ldI_own (oG.le hG4) rfl (ld1_own (oG.le hG4) rfl (rec hk0 _ S' G4 _ _ h0G4 hS' (.inr ⟨b0,m,Nat.zero_le _,rfl,oB,by simp [hS'l]⟩) fun G5 l5=>asB_mk (pif_cases (fun hb=>?_) fun hb=>?_)))
        ·unfold F45.B4
         have kk:=kk _ (AHeap.le_trans (AHeap.le_trans lG hG4) l5)
         obtain ⟨k',rfl⟩:∃ k',k=k'+1:=⟨k-1,by omega⟩
         rw [Nat.add_sub_cancel] at hb
         have:covB L m (k'+1) s=true:=by
          rw [covB_succ hne,← hw,List.any_eq_true]
          refine ⟨L.getD i [],by rw [getD_of hil];exact List.getElem_mem hil,?_⟩
          rw [hin,hb];rfl
         rw [this] at kk;exact kk
        ·unfold F45.B3
         rw [wrap_id (by omega) (by omega)]
         exact ⟨⟨rfl,rfl,rfl,rfl,rfl,AHeap.le_trans hG (AHeap.le_trans hG4 l5),i+1,by omega,by omega,nxt (by rw [hb];simp)⟩,by show L.length-((i:Int)+1).toNat<L.length-(i:Int).toNat;omega⟩
      refine f2.sl.app E_bool (by decide) l2.1 (fresh_cells (hqG.le l2) (by decide) (n:=m) (by simp [hSl])) (by simp;omega) (fun h=>?_) fun v' G3 k3 _ _ f3=>?_
      ·have:S=[]:=by simpa using h
       rw [this] at hSl;simp at hSl;omega
      ·exact go v' G3 (k3.le l2 (Nat.le_refl _)) (by simpa using f3)
    ·have hk0:k=0:=by have:=of_decide_eq_false hb;omega
     exact fin0 (.inl hk0)
   ·have hil:i=L.length:=by have:=of_decide_eq_false hb;omega
    exact fin0 (.inr hil)
  unfold F45.B20 F45.L17
  refine ⟨fun x1 x2 x3 x4 x9 G=>u=x1∧q=x2∧((k:Nat):Int)=x3∧H.length=x4∧H1=G∧∃ i:Nat,x9=i∧i≤m∧∀ j,j<i→s.testBit j=true,fun _ _ _ _ x9 _=>m-x9.toNat,⟨rfl,rfl,rfl,rfl,rfl,0,rfl,by omega,fun j hj=>absurd hj (by omega)⟩,?_⟩
  rintro x1 x2 x3 x4 x9 G ⟨rfl,rfl,rfl,rfl,rfl,i,rfl,hi,hlow⟩
  unfold F45.B19
  refine hq1.sl.len (by decide) (n:=m) (by simp [hSl]) (pif_cases (fun hb=>?_) fun hb=>?_)
  ·have him:i<m:=by have:=of_decide_eq_true hb;omega
   refine Sl_rd hq1.sl (by omega) (by simp;omega) (by rw [Int.toNat_natCast];exact LB_get (by omega)) (asB_mk ?_)
   rw [hS.2 i him]
   refine pif_cases (fun hb=>?_) fun hb=>?_
   ·unfold F45.B18
    rw [wrap_id (by omega) (by omega)]
    refine ⟨⟨rfl,rfl,rfl,rfl,rfl,i+1,by omega,by omega,fun j hj=>?_⟩,by show m-((i:Int)+1).toNat<m-(i:Int).toNat;omega⟩
    by_cases e:j=i
    ·subst e;exact hb
    ·exact hlow j (by omega)
   ·rw [← fv_eq (n:=m) hi hlow fun _=>hb,← hw];exact main
  ·have him:i=m:=by have:=of_decide_eq_false hb;omega
   rw [← fv_eq (n:=m) hi hlow fun h=>by omega,← hw];exact main
 intro k
 induction k with
 | zero=>exact fun s S H K q hk=>step 0 s S H K q hk fun h=>absurd h (by omega)
 | succ k ih=>exact fun s S H K q hk=>step (k+1) s S H K q hk fun _ s' S' H' K' q'=>ih s' S' H' K' q' (by omega)
end Go.Proofs
namespace Go.Proofs
open Go.Abs

variable {H G:AHeap} {v u f:Value} {l m c D:List Int} {es fs:List (Int × Int)} {K:Value→AHeap→Prop} {A A':Nat→Prop} {B:Nat} {ls ms:List (List Int)}

abbrev coversV (a b c:Nat):Value:=.func (.func 39) ⟨[]⟩ ⟨[.pointer (some ⟨a,0,none⟩),.pointer (some ⟨b,0,none⟩),.pointer (some ⟨c,0,none⟩)]⟩
theorem filtB_first {S:Nat→Bool} {m w:Nat} (hw:w<m) (h1:S w=true) (h2:∀ j,j<w→S j=false):∃ r,filtB S m=(w:Int)::r:=by
 have hm:(w:Int)∈filtB S m:=mem_filtB.2 ⟨w,rfl,hw,h1⟩
 have ha:=filtB_asc S m
 cases hl:filtB S m with
 | nil=>rw [hl] at hm;cases hm
 | cons a r=>
  refine ⟨r,?_⟩
  rw [hl] at hm ha
  have hma:a∈filtB S m:=by rw [hl];simp
  obtain ⟨j,rfl,_,hj⟩:=mem_filtB.1 hma
  rcases List.mem_cons.1 hm with h|h
  ·rw [h]
  ·unfold Asc at ha
   have:=(List.pairwise_cons.1 ha).1 _ h
   have:=h2 j (by omega)
   rw [hj] at this;cases this
theorem setN_lt_pow {l:List Int} {m:Nat} (h:IsS l m):setN l<2^m:=bits_lt fun j hj=>bitB_lt h hj
theorem covers_ok {n:Int} {H0 B1:AHeap} (he:Edges H0 v es) (hl60:es.length≤60) {L:List (List Int)} (hLr:∀ l∈L,IsS l es.length) (hLl:L.length≤1000) {cg cl cc m0:Nat} {tg tl tc:TypeId} {w:Value} (h01:H0.le B1)
    (og:Own B1 cg tg [.int .i64 n,v]) (ol:Own B1 cl tl [w]) (hw:Sl m0 B1 w 45 1 (LU (L.map setN))) (oc:Own B1 cc tc [coversV cg cl cc]) :
    ∀ (k s:Nat) (H:AHeap) (K:Value→AHeap→Prop),B1.le H→s<2^es.length→k≤1000→(∀ G,H.le G→K (.bool (covB L es.length k s)) G)→
      AC Tryz.prog T0 39 [.int .u64 (s:Nat),.int .i64 (k:Nat),.pointer (some ⟨cg,0,none⟩),.pointer (some ⟨cl,0,none⟩),.pointer (some ⟨cc,0,none⟩)] H K:=by
  obtain ⟨m,hm⟩:∃ m,m=es.length:=⟨_,rfl⟩
  have hp61:(2:Nat)^es.length<2^61:=Nat.pow_lt_pow_right (by decide) (by omega)
  have hp64:(2:Nat)^61<2^64:=by decide
  have hmp:=Nat.two_pow_pos es.length
  intro k
  induction k with
  | zero|succ k ih=>
    intro s H K hB hs hk kk
    have hs64:s<2^64:=by omega
    apply F39.ac
    unfold F39.B6
    refine newK_f rfl fun H1 l1 n1 o1=>newK_f rfl fun H2 l2 n2 o2=>?_
    have l12:=AHeap.le_trans l1 l2
    have hB2:=AHeap.le_trans hB l12
    have o12:=o1.le l2
    unfold F39.B5
    refine asP_mk (ldI_own (og.le hB2) rfl (ld1_own (og.le hB2) rfl (ldI_own o12 rfl (every_ok (he.le (AHeap.le_trans h01 hB2)) hl60 fun G lG=>asI_mk ⟨lG,?_⟩))))
    rw [bits_andnot (by omega) hs64]
    obtain ⟨X,hX⟩:∃ X,X=(2^es.length-1)&&&(2^64-(s+1)):=⟨_,rfl⟩
    rw [← hX]
    have hXl:X<2^64:=by rw [hX];exact Nat.lt_of_le_of_lt Nat.and_le_left (by omega)
    have hXb:∀ j,X.testBit j=(decide (j<es.length)&&!s.testBit j):=fun j=>by rw [hX,andnot_bit (by omega) hs64,Nat.testBit_two_pow_sub_one]
    have lHG:=AHeap.le_trans l12 lG
    have hBG:=AHeap.le_trans hB lHG
    unfold F39.B4
    by_cases hfu:fv s es.length=es.length
    · have:X=0:=by
        apply Nat.eq_of_testBit_eq
        intro j
        rw [hXb]
        by_cases hj:j<es.length
        · rw [fv_below (s:=s) (n:=es.length) (by omega)];simp
        · simp [hj]
      refine pif_t (by rw [this];rfl) ?_
      unfold F39.B3
      have kk:=kk _ lHG
      rw [covB_full hfu] at kk
      exact kk
    have hlt:fv s es.length<es.length:=by have:=fv_le s es.length;omega
    have hX0:X≠0:=fun h=>by
      have:=hXb (fv s es.length)
      rw [h,fv_at hlt] at this
      simp at this;omega
    obtain ⟨i,hi⟩:∃ i,i=fv s es.length:=⟨_,rfl⟩
    refine pif_f (by rw [beq_eq_false_iff_ne];omega) ?_
    unfold F39.B2
    refine list_ok hXl fun q G2 l3 f3=>?_
    have hbl:bitsL X=filtB (fun j=>X.testBit j) es.length:=bitsL_filt (by omega) fun j hj=>by rw [hXb,Bool.and_eq_true] at hj;exact of_decide_eq_true hj.1
    obtain ⟨r,hr⟩:=filtB_first (S:=fun j=>X.testBit j) (m:=es.length) (w:=i) (by omega) (by show X.testBit i=true;rw [hXb,hi,fv_at hlt];simpa using hlt) (fun j hj=>by show X.testBit j=false;rw [hXb,fv_below (s:=s) (n:=es.length) (by omega)];simp)
    rw [hbl,hr] at f3
    refine f3.ints.rd (by decide) (by simp) ?_
    rw [show ((i:Int)::r).getD (0:Int).toNat 0=(i:Int) from rfl]
    refine newK_f rfl fun G3 l4 n4 o4=>stK_f o4 (by simp) (by simp [Value.oneCell']) rfl fun G4 b4 o4'=>?_
    have o4':Own G4 G2.length 2 [.int .i64 (i:Nat)]:=by simpa using o4'
    have l24:G2.le G4:=b4.le l4 (Nat.le_refl _)
    have lG4:=AHeap.le_trans lG (AHeap.le_trans l3 l24)
    have hB4:=AHeap.le_trans hB2 lG4
    have lH4:=AHeap.le_trans l12 lG4
    unfold F39.B1
    have o14:=o12.le lG4
    have o24:=o2.le lG4
    refine ldI_own o24 rfl ?_
    first
    | (refine pif_f (by simp) ?_
       have kk:=kk _ lH4
       rw [covB_zero hfu] at kk
       exact kk)
    | (refine pif_t (decide_eq_true (by omega)) ?_
       have hZ64:∀ z∈L.map setN,z<2^64:=by
         intro z hz
         obtain ⟨l,hl,rfl⟩:=List.mem_map.1 hz
         have:=setN_lt_pow (hLr l hl);omega
       refine asP_mk (ld1_own (ol.le hB4) rfl (containsU_ok (p:=fun z=>z.testBit i&&covB L es.length k (s|||z)) (hw.le hB4) (by rw [List.length_map];omega) (fun z hz=>?_) fun G5 l5=>asB_mk ?_))
       · intro G5 l5 K5 k5
         have hz64:=hZ64 z hz
         obtain ⟨l,hl,rfl⟩:=List.mem_map.1 hz
         refine callV_mk ?_
         apply F41.ac
         unfold F41.B2 F41.B1
         refine asP_mk (ldI_own (o4'.le l5) rfl (has_ok hz64 (by omega) (asB_mk ?_)))
         rw [Int.toNat_natCast]
         refine pif_cases (fun hb=>?_) fun hb=>?_
         · refine asP_mk (ld1_own ((oc.le hB4).le l5) rfl (asP_mk (ldI_own (o14.le l5) rfl (asP_mk (ldI_own (o24.le l5) rfl (callV_mk ?_))))))
           rw [bits_or hs64 hz64,wrap_id (by omega) (by omega),show (((k+1:Nat):Nat):Int)-1=((k:Nat):Int) by omega]
           refine ih (s|||setN l) G5 _ (AHeap.le_trans hB4 l5) (Nat.or_lt_two_pow hs (setN_lt_pow (hLr l hl))) (by omega) fun G6 l6=>asB_mk ?_
           have:=k5 G6 l6
           rw [hb,Bool.true_and] at this
           exact this
         · have:=k5 G5 (AHeap.le_refl _)
           rw [hb,Bool.false_and] at this
           exact this
       · have kk:=kk _ (AHeap.le_trans lH4 l5)
         have e:(L.map setN).any (fun z=>z.testBit i&&covB L es.length k (s|||z))=covB L es.length (k+1) s:=by
           rw [covB_succ hfu,List.any_map,← hi,Bool.eq_iff_iff,List.any_eq_true,List.any_eq_true]
           have hb:∀ l∈L,(setN l).testBit i=decide ((i:Int)∈l):=fun l hl=>setN_bit (fun x hx=>((hLr l hl).range x hx).1) i
           constructor
           · rintro ⟨l,h1,h2⟩
             refine ⟨l,h1,?_⟩
             simp only [Function.comp] at h2
             rwa [hb l h1] at h2
           · rintro ⟨l,h1,h2⟩
             refine ⟨l,h1,?_⟩
             simp only [Function.comp]
             rwa [hb l h1]
         rw [e];exact kk)

def AllC (n:Int) (es:List (Int × Int)):Prop:=∀ j:Nat,j<es.length→∃ l∈mats n es,(j:Int)∈l
noncomputable instance (n:Int) (es:List (Int × Int)):Decidable (AllC n es):=Classical.propDecidable _
noncomputable def cvCode (n:Int) (es:List (Int × Int)):Int:=if IsG n es then (if (mats n es).length>60 then 3 else if AllC n es then 0 else 4) else 1
noncomputable def cvVal (n:Int) (es:List (Int × Int)):Int:=if cvCode n es=0 then ((covN (mats n es) es.length 31 3:Nat):Int) else 0
theorem cov_step {n:Int} (hg:IsG n es) (ha:AllC n es) {k:Nat} (hk:k≤30):(covB (mats n es) es.length k 0=true→covN (mats n es) es.length (34-k) k=k)∧(covB (mats n es) es.length k 0=false→k<30∧covN (mats n es) es.length (34-k) k=covN (mats n es) es.length (34-(k+1)) (k+1)):=by
 have h30:es.length≤30:=by have:=hg.ed.len;have:=hg.ed.hi;omega
 have e:34-k=(34-(k+1))+1:=by omega
 constructor
 ·intro h
  rw [e,covN,if_pos h]
 ·intro h
  refine ⟨?_,by rw [e,covN,if_neg (by rw [h];decide)]⟩
  rcases Nat.lt_or_ge k 30 with h'|h'
  ·exact h'
  ·have:=covB_enough (L:=mats n es) (m:=es.length) ha (fun l hl x hx=>((mats_row hg l hl).1.range x hx).1) (k:=k) (s:=0) (by have:=left_le 0 es.length;omega)
   rw [this] at h;cases h
theorem covS_none (m:Nat):CovS 0 m (List.replicate m false):=⟨by simp,fun j hj=>by simp [List.getD,List.getElem?_replicate,hj]⟩
theorem specCvN_ok {n:Int} (h:Edges H v es) (hl:es.length≤1048576) (k:∀ G,H.le G→K (.tuple ⟨[.int .i64 (cvVal n es),.int .i64 (cvCode n es)]⟩) G):AC Tryz.prog T0 16 [.agg ⟨[.int .i64 n,v]⟩] H K:=by
 apply F16.ac
 unfold F16.B17
 refine newK_f (all_iv (edges_one' h)) fun H1 l1 _ o1=>?_
 unfold F16.B16
 refine ldI_own o1 rfl (ld1_own o1 rfl (l01Is_ok (h.le l1) hl fun H2 l2=>asB_mk ?_))
 have l12:=AHeap.le_trans l1 l2
 have o2:=o1.le l2
 refine pif_cases (fun hs=>?_) fun hs=>?_
 ·have hg:¬ IsG n es:=by simpa using hs
  have e:cvCode n es=1:=by unfold cvCode;rw [if_neg hg]
  unfold F16.B15
  have k:=k _ l12
  unfold cvVal at k
  rw [e] at k
  exact k
 have hg:IsG n es:=by simpa using hs
 have n0:=hg.ed.lo;have n1:=hg.ed.hi
 have h30:es.length≤30:=by have:=hg.ed.len;omega
 have h3:0<es.length:=by have:=hg.ed.len;omega
 have hml:=mats_length hg
 have hrow:=mats_row hg
 unfold F16.B14
 refine ldI_own o2 rfl (ld1_own o2 rfl (l04All_ok hg (h.le l12) fun q H3 l3 hR=>?_))
 have l13:=AHeap.le_trans l12 l3
 have o3:=o2.le l3
 unfold F16.B13
 refine hR.len (pif_cases (fun hb=>?_) fun hb=>?_)
 ·have hgt:(mats n es).length>60:=by have:=of_decide_eq_true hb;omega
  have e:cvCode n es=3:=by unfold cvCode;rw [if_pos hg,if_pos hgt]
  unfold F16.B12
  have k:=k _ l13
  unfold cvVal at k
  rw [e] at k
  exact k
 have hgt:¬ (mats n es).length>60:=by have:=of_decide_eq_false hb;omega
 unfold F16.B11 F16.L6
 refine ⟨fun x1 x4 x5 G=>H.length=x1∧q=x4∧H3=G∧∃ i:Nat,x5=i∧i≤es.length∧∀ j:Nat,j<i→∃ l∈mats n es,(j:Int)∈l,fun _ _ x5 _=>es.length-x5.toNat,⟨rfl,rfl,rfl,0,rfl,by omega,fun j hj=>absurd hj (by omega)⟩,?_⟩
 rintro x1 x4 x5 G ⟨rfl,rfl,rfl,i,rfl,hi,hall⟩
 unfold F16.B10
 refine ld1_own o3 rfl ((h.le l13).len (pif_cases (fun hb=>?_) fun hb=>?_))
 ·have hil:i<es.length:=by have:=of_decide_eq_true hb;omega
  unfold F16.B9
  refine l04With_ok hR (by omega) (fun l hl=>by have:=(hrow l hl).2;omega) (asI_mk (pif_cases (fun hb=>?_) fun hb=>?_))
  ·have h0:=beq_iff_eq.1 hb
   have hna:¬ AllC n es:=fun ha=>by
    have:=withN_pos.2 (ha i hil);omega
   have e:cvCode n es=4:=by unfold cvCode;rw [if_pos hg,if_neg hgt,if_neg hna]
   unfold F16.B8
   have k:=k _ l13
   unfold cvVal at k
   rw [e] at k
   exact k
  ·have h0:withN (mats n es) (i:Nat)≠0:=fun e=>by rw [e] at hb;simp at hb
   unfold F16.B7
   rw [wrap_id (by omega) (by omega)]
   refine ⟨⟨rfl,rfl,rfl,i+1,by omega,by omega,fun j hj=>?_⟩,by show es.length-((i:Int)+1).toNat<es.length-(i:Int).toNat;omega⟩
   by_cases e:j=i
   ·subst e;exact withN_pos.1 (by omega)
   ·exact hall j (by omega)
 ·have hil:i=es.length:=by have:=of_decide_eq_false hb;omega
  subst hil
  have ha:AllC n es:=hall
  have e0:cvCode n es=0:=by unfold cvCode;rw [if_pos hg,if_neg hgt,if_pos ha]
  unfold cvVal at k
  rw [e0,if_pos rfl] at k
  unfold F16.B5 F16.L1
  refine ⟨fun x1 x4 x6 G=>H.length=x1∧q=x4∧H3.le G∧∃ c:Nat,x6=c∧c≤30∧covN (mats n es) es.length (34-c) c=covN (mats n es) es.length 31 3,fun _ _ x6 _=>34-x6.toNat,⟨rfl,rfl,AHeap.le_refl _,3,rfl,by omega,rfl⟩,?_⟩
  rintro x1 x4 x6 G ⟨rfl,rfl,hG,c,rfl,hc,hcov⟩
  have lG:=AHeap.le_trans l13 hG
  have oG:=o3.le hG
  obtain ⟨st1,st2⟩:=cov_step hg ha hc
  unfold F16.B4
  refine ldI_own oG rfl (ld1_own oG rfl (ld1_own oG rfl ((h.le lG).len (mkR_int (by omega) (by omega) (by decide) fun G2 l4 n4 o4=>?_))))
  rw [Int.toNat_natCast,rep_b] at o4
  rw [Int.toNat_natCast]
  refine l04Cover_ok (H0:=H3) (h.le l13) h3 h30 (by omega) hrow hR (Nat.le_refl _) c 0 _ G2 _ _ (by omega) (AHeap.le_trans hG l4) (covS_none _) (.inr ⟨_,es.length,Nat.zero_le _,rfl,o4,by simp⟩) fun G3 l5=>asB_mk (pif_cases (fun hb=>?_) fun hb=>?_)
  ·unfold F16.B3
   have k:=k _ (AHeap.le_trans lG (AHeap.le_trans l4 l5))
   rw [← hcov,st1 hb] at k
   exact k
  ·obtain ⟨h1,h2⟩:=st2 hb
   unfold F16.B2
   rw [wrap_id (by omega) (by omega)]
   exact ⟨⟨rfl,rfl,AHeap.le_trans hG (AHeap.le_trans l4 l5),c+1,by omega,by omega,by rw [← h2];exact hcov⟩,by show 34-((c:Int)+1).toNat<34-(c:Int).toNat;omega⟩
theorem implCvN_ok {n:Int} (hT:Tab H) (h:Edges H v es) (hl:es.length≤1048576) (k:∀ G,H.le G→K (.tuple ⟨[.int .i64 (cvVal n es),.int .i64 (cvCode n es)]⟩) G):AC Tryz.prog T0 15 [.agg ⟨[.int .i64 n,v]⟩] H K:=by
 apply F15.ac
 unfold F15.B23
 refine newK_f (all_iv (edges_one' h)) fun H1 l1 _ o1=>?_
 unfold F15.B22
 refine ldI_own o1 rfl (ld1_own o1 rfl (graphCode_ok (b:=true) (h.le l1) hl fun H2 l2=>asI_mk ?_))
 have l12:=AHeap.le_trans l1 l2
 have o2:=o1.le l2
 have e:(if IsG n es then (if true=true then 0 else 2) else 1:Int)=grCode n es:=by unfold grCode;simp
 rw [e]
 unfold F15.B21
 refine pif_cases (fun hs=>?_) fun hs=>?_
 ·have hg:¬ IsG n es:=fun h=>by unfold grCode at hs;rw [if_pos h] at hs;simp at hs
  have e0:grCode n es=1:=by unfold grCode;rw [if_neg hg]
  have e:cvCode n es=1:=by unfold cvCode;rw [if_neg hg]
  unfold F15.B20
  have k:=k _ l12
  unfold cvVal at k
  rw [e] at k
  rw [e0]
  exact k
 have hg:IsG n es:=by
  unfold grCode at hs
  by_cases h:IsG n es
  ·exact h
  ·rw [if_neg h] at hs;simp at hs
 have hrow:=mats_row hg
 have n0:=hg.ed.lo;have n1:=hg.ed.hi
 have h30:es.length≤30:=by have:=hg.ed.len;omega
 unfold F15.B19
 refine ldI_own o2 rfl (ld1_own o2 rfl (listed_ok hg (hT.le l12) (h.le l12) fun w H3 l3 f3=>tup2_mk (asB_mk (newK_f rfl fun H4 l4 n4 o4=>?_))))
 have l13:=AHeap.le_trans l12 l3
 have w1:w.oneCell'=true:=by
  rcases f3 with ⟨_,rfl|⟨a,rfl⟩⟩|⟨b,n',_,rfl,_⟩ <;> rfl
 refine pif_t w1 (stK_f o4 (by simp) (by simpa using w1) rfl fun H5 b5 o5=>?_)
 have l35:H3.le H5:=b5.le l4 (Nat.le_refl _)
 have l15:=AHeap.le_trans l13 l35
 have o25:=(o2.le l3).le l35
 have f5:=f3.le l35
 have o5:Own H5 H3.length 56 [w]:=by simpa using o5
 unfold F15.B18
 refine pif_cases (fun hs=>?_) fun hs=>?_
 ·have hgt:(mats n es).length>60:=by simpa using hs
  have e:cvCode n es=3:=by unfold cvCode;rw [if_pos hg,if_pos hgt]
  unfold F15.B17
  have k:=k _ l15
  unfold cvVal at k
  rw [e] at k
  exact k
 have hgt:¬ (mats n es).length>60:=by simpa using hs
 have hup:upToD over60 [] (mats n es)=mats n es:=upToD_all (by rw [over60_any _ _ (by simp)];simp;omega)
 rw [hup] at f5
 obtain ⟨L,hL⟩:∃ L,L=mats n es:=⟨_,rfl⟩
 have hsn:∀ l∈L,setN l<2^64:=fun l hl=>setN_lt fun x hx=>by rw [hL] at hl;have:=(hrow l hl).1.range x hx;omega
 rw [← hL] at f5
 have hLl:L.length≤60:=by rw [hL];omega
 have hor:∀ t,orN (L.take t)<2^64:=fun t=>orN_lt fun l hl=>hsn l (List.mem_of_mem_take hl)
 unfold F15.B16 F15.B15
 refine ld1_own o5 rfl (f5.sl.len (by decide) (n:=L.length) (by simp) ?_)
 unfold F15.L10
 refine ⟨fun x1 x5 x7 x24 x25 x26 G=>H.length=x1∧H3.length=x5∧w=x24∧(L.length:Int)=x25∧H5=G∧∃ t:Nat,x26=t∧t≤L.length∧x7=(orN (L.take t):Nat),fun _ _ _ _ _ x26 _=>L.length-x26.toNat,⟨rfl,rfl,rfl,rfl,rfl,0,rfl,by omega,by simp [orN]⟩,?_⟩
 rintro x1 x5 x7 x24 x25 x26 G ⟨rfl,rfl,rfl,rfl,rfl,t,rfl,ht,rfl⟩
 unfold F15.B14
 refine pif_cases (fun hb=>?_) fun hb=>?_
 ·have htl:t<L.length:=by have:=of_decide_eq_true hb;omega
  unfold F15.B13
  refine Sl_rdI f5.sl (by omega) (by simp;omega) (by rw [Int.toNat_natCast];exact LU_get (by simp;omega)) ?_
  have hz:(L.map setN).getD t 0=setN L[t]:=by rw [getD_of (by simpa using htl)];simp
  rw [hz]
  unfold F15.B12 F15.B11
  rw [bits_or (hor t) (hsn _ (List.getElem_mem htl)),wrap_id (by omega) (by omega)]
  refine ⟨⟨rfl,rfl,rfl,rfl,rfl,t+1,by omega,by omega,?_⟩,by show L.length-((t:Int)+1).toNat<L.length-(t:Int).toNat;omega⟩
  rw [List.take_succ_eq_append_getElem htl,orN_snoc]
 ·have htl:t=L.length:=by have:=of_decide_eq_false hb;omega
  subst htl
  rw [List.take_length]
  have hobits:∀ j,(orN L).testBit j=true↔∃ l∈mats n es,(j:Int)∈l:=by
   intro j
   rw [orN_bit,hL]
   constructor <;> rintro ⟨l,h1,h2⟩
   ·exact ⟨l,h1,(bitB_mem (hrow l h1).1 j).1 h2⟩
   ·exact ⟨l,h1,(bitB_mem (hrow l h1).1 j).2 h2⟩
  have hall:orN L=2^es.length-1↔AllC n es:=by
   constructor
   ·intro he j hj
    rw [← hobits,he,Nat.testBit_two_pow_sub_one];simpa using hj
   ·intro ha
    apply Nat.eq_of_testBit_eq
    intro j
    rw [Nat.testBit_two_pow_sub_one,Bool.eq_iff_iff,hobits,decide_eq_true_iff]
    constructor
    ·rintro ⟨l,h1,h2⟩
     have:=(hrow l h1).1.range _ h2;omega
    ·exact fun hj=>ha j hj
  unfold F15.B9
  refine ldI_own o25 rfl (ld1_own o25 rfl (every_ok (h.le l15) (by omega) fun H6 l6=>asI_mk (pif_cases (fun hb=>?_) fun hb=>?_)))
  ·have hne:=bne_iff_ne.1 hb
   have hna:¬ AllC n es:=fun ha=>by have:=hall.2 ha;omega
   have e:cvCode n es=4:=by unfold cvCode;rw [if_pos hg,if_neg hgt,if_neg hna]
   unfold F15.B8
   have k:=k _ (AHeap.le_trans l15 l6)
   unfold cvVal at k
   rw [e] at k
   exact k
  ·have heq:=bne_eq_false_iff_eq.1 hb
   have ha:AllC n es:=hall.1 (by omega)
   have e0:cvCode n es=0:=by unfold cvCode;rw [if_pos hg,if_neg hgt,if_pos ha]
   unfold cvVal at k
   rw [e0,if_pos rfl] at k
   have l16:=AHeap.le_trans l15 l6
   unfold F15.B7
   refine newK_f rfl fun H7 l7 n7 o7=>?_
   unfold F15.B6
   refine stK_f o7 (by simp) (by simp [Value.oneCell']) rfl fun H8 b8 o8=>?_
   have l68:H6.le H8:=b8.le l7 (Nat.le_refl _)
   have l58:=AHeap.le_trans l6 l68
   have l18:=AHeap.le_trans l15 l58
   obtain ⟨tt,o8⟩:∃ tt,Own H8 H6.length tt [coversV H.length H3.length H6.length]:=⟨_,by simpa using o8⟩
   unfold F15.B5 F15.L2
   refine ⟨fun x10 x11 G=>H6.length=x10∧H8.le G∧∃ c:Nat,x11=c∧c≤30∧covN (mats n es) es.length (34-c) c=covN (mats n es) es.length 31 3,fun _ x11 _=>34-x11.toNat,⟨rfl,AHeap.le_refl _,3,rfl,by omega,rfl⟩,?_⟩
   rintro x10 x11 G ⟨rfl,hG,c,rfl,hc,hcov⟩
   obtain ⟨st1,st2⟩:=cov_step hg ha hc
   unfold F15.B4
   refine ld1_own (o8.le hG) rfl (callV_mk ?_)
   refine covers_ok (H0:=H) (B1:=H8) h (by omega) (L:=mats n es) (fun l hl=>(hrow l hl).1) (by rw [← hL];omega) l18 (o25.le l58) (o5.le l58) (by rw [← hL];exact (f5.le l58).sl) o8 c 0 G _ hG (Nat.two_pow_pos _) (by omega) fun G2 lG2=>asB_mk (pif_cases (fun hb=>?_) fun hb=>?_)
   ·have hb':covB (mats n es) es.length c 0=false:=by simpa using hb
    obtain ⟨h1,h2⟩:=st2 hb'
    unfold F15.B3
    rw [wrap_id (by omega) (by omega)]
    exact ⟨⟨rfl,AHeap.le_trans hG lG2,c+1,by omega,by omega,by rw [← h2];exact hcov⟩,by show 34-((c:Int)+1).toNat<34-(c:Int).toNat;omega⟩
   ·have hb':covB (mats n es) es.length c 0=true:=by simpa using hb
    unfold F15.B1
    have k:=k _ (AHeap.le_trans l18 (AHeap.le_trans hG lG2))
    rw [← hcov,st1 hb'] at k
    exact k
end Go.Proofs
namespace Go.Proofs
open Go.Abs

variable {H G:AHeap} {v u f:Value} {l m c D:List Int} {es fs:List (Int × Int)} {K:Value→AHeap→Prop}

theorem specBest_ok {n:Int} (h:Edges H v es) (hl:es.length≤1048576) (k:∀ v' G,H.le G→Fresh H.length G v' 2 1 (LI (bmList n es))→K (.tuple ⟨[v',.int .i64 (bmCode n es)]⟩) G):AC Tryz.prog T0 9 [.agg ⟨[.int .i64 n,v]⟩] H K:=by
 apply F9.ac
 unfold F9.B7
 refine newK_f (all_iv (edges_one' h)) fun H1 l1 _ o1=>?_
 unfold F9.B6
 refine ldI_own o1 rfl (ld1_own o1 rfl (l01Is_ok (h.le l1) hl fun H2 l2=>asB_mk ?_))
 have l12:=AHeap.le_trans l1 l2
 have o2:=o1.le l2
 refine pif_cases (fun hs=>?_) fun hs=>?_
 ·have hg:¬ IsG n es:=by simpa using hs
  have e:bmCode n es=1:=by unfold bmCode;rw [if_neg hg]
  unfold F9.B5
  have k:=k (.slice none 0 0) _ l12
  unfold bmList at k
  rw [e] at k
  exact k (.inl ⟨rfl,.inl rfl⟩)
 have hg:IsG n es:=by simpa using hs
 unfold F9.B4
 refine ldI_own o2 rfl (ld1_own o2 rfl (l04Best_ok (h.le l12) hg fun w H3 l3 f3=>tup3_mk (asI_mk (asB_mk ?_))))
 have l13:=AHeap.le_trans l12 l3
 unfold F9.B3
 refine pif_cases (fun hs=>?_) fun hs=>?_
 ·have he:mats n es=[]:=by simpa using hs
  have e:bmCode n es=4:=by unfold bmCode;rw [if_pos hg,if_pos he]
  unfold F9.B2
  have k:=k (.slice none 0 0) _ l13
  unfold bmList at k
  rw [e] at k
  exact k (.inl ⟨rfl,.inl rfl⟩)
 ·have he:mats n es≠[]:=by simpa using hs
  have e:bmCode n es=0:=by unfold bmCode;rw [if_pos hg,if_neg he]
  unfold F9.B1
  have k:=k w _ l13
  unfold bmList at k
  rw [e,if_pos rfl] at k
  exact k (f3.less l12.1)
theorem implBest_ok {n:Int} (hT:Tab H) (h:Edges H v es) (hl:es.length≤1048576) (k:∀ v' G,H.le G→Fresh H.length G v' 2 1 (LI (bmList n es))→K (.tuple ⟨[v',.int .i64 (bmCode n es)]⟩) G):AC Tryz.prog T0 8 [.agg ⟨[.int .i64 n,v]⟩] H K:=by
 apply F8.ac
 unfold F8.B8
 refine newK_f (all_iv (edges_one' h)) fun H1 l1 _ o1=>?_
 unfold F8.B7
 refine ldI_own o1 rfl (ld1_own o1 rfl (graphCode_ok (b:=true) (h.le l1) hl fun H2 l2=>asI_mk ?_))
 have l12:=AHeap.le_trans l1 l2
 have o2:=o1.le l2
 have e:(if IsG n es then (if true=true then 0 else 2) else 1:Int)=grCode n es:=by unfold grCode;simp
 rw [e]
 unfold F8.B6
 refine pif_cases (fun hs=>?_) fun hs=>?_
 ·have hg:¬ IsG n es:=fun h=>by unfold grCode at hs;rw [if_pos h] at hs;simp at hs
  have e0:grCode n es=1:=by unfold grCode;rw [if_neg hg]
  have e:bmCode n es=1:=by unfold bmCode;rw [if_neg hg]
  unfold F8.B5
  have k:=k (.slice none 0 0) _ l12
  unfold bmList at k
  rw [e] at k
  rw [e0]
  exact k (.inl ⟨rfl,.inl rfl⟩)
 have hg:IsG n es:=by
  unfold grCode at hs
  by_cases h:IsG n es
  ·exact h
  ·rw [if_neg h] at hs;simp at hs
 have h30:es.length≤30:=by have:=hg.ed.len;have:=hg.ed.hi;omega
 unfold F8.B4
 refine ldI_own o2 rfl (ld1_own o2 rfl (best_ok (hT.le l12) (h.le l12) hg fun H3 l3=>tup3_mk (asI_mk (asI_mk (asB_mk ?_)))))
 have l13:=AHeap.le_trans l12 l3
 unfold F8.B3
 refine pif_cases (fun hs=>?_) fun hs=>?_
 ·have he:mats n es=[]:=by simpa using hs
  have e:bmCode n es=4:=by unfold bmCode;rw [if_pos hg,if_pos he]
  unfold F8.B2
  have k:=k (.slice none 0 0) _ l13
  unfold bmList at k
  rw [e] at k
  exact k (.inl ⟨rfl,.inl rfl⟩)
 ·have he:mats n es≠[]:=by simpa using hs
  have e:bmCode n es=0:=by unfold bmCode;rw [if_pos hg,if_neg he]
  have hS:=best_isS hg (d:=mats n es) fun l hl=>hl
  unfold F8.B1
  refine list_ok (setN_lt fun x hx=>by have:=hS.range x hx;omega) fun w H4 l4 f4=>?_
  rw [hS.bits (by omega)] at f4
  have k:=k w _ (AHeap.le_trans l13 l4)
  unfold bmList at k
  rw [e,if_pos rfl] at k
  exact k (f4.less l13.1)
theorem specOdd_ok {n:Int} (h:Edges H v es) (hl:es.length≤1048576) (k:∀ G,H.le G→K (.tuple ⟨[.int .i64 (odVal n es),.int .i64 (bmCode n es)]⟩) G):AC Tryz.prog T0 7 [.agg ⟨[.int .i64 n,v]⟩] H K:=by
 apply F7.ac
 unfold F7.B7
 refine newK_f (all_iv (edges_one' h)) fun H1 l1 _ o1=>?_
 unfold F7.B6
 refine ldI_own o1 rfl (ld1_own o1 rfl (l01Is_ok (h.le l1) hl fun H2 l2=>asB_mk ?_))
 have l12:=AHeap.le_trans l1 l2
 have o2:=o1.le l2
 refine pif_cases (fun hs=>?_) fun hs=>?_
 ·have hg:¬ IsG n es:=by simpa using hs
  have e:bmCode n es=1:=by unfold bmCode;rw [if_neg hg]
  unfold F7.B5
  have k:=k _ l12
  unfold odVal at k
  rw [e] at k
  exact k
 have hg:IsG n es:=by simpa using hs
 unfold F7.B4
 refine ldI_own o2 rfl (ld1_own o2 rfl (l04Best_ok (h.le l12) hg fun w H3 l3 f3=>tup3_mk (asI_mk (asB_mk ?_))))
 have l13:=AHeap.le_trans l12 l3
 unfold F7.B3
 refine pif_cases (fun hs=>?_) fun hs=>?_
 ·have he:mats n es=[]:=by simpa using hs
  have e:bmCode n es=4:=by unfold bmCode;rw [if_pos hg,if_pos he]
  unfold F7.B2
  have k:=k _ l13
  unfold odVal at k
  rw [e] at k
  exact k
 ·have he:mats n es≠[]:=by simpa using hs
  have e:bmCode n es=0:=by unfold bmCode;rw [if_pos hg,if_neg he]
  unfold F7.B1
  have k:=k _ l13
  unfold odVal at k
  rw [e,if_pos rfl] at k
  exact k
theorem implOdd_ok {n:Int} (hT:Tab H) (h:Edges H v es) (hl:es.length≤1048576) (k:∀ G,H.le G→K (.tuple ⟨[.int .i64 (odVal n es),.int .i64 (bmCode n es)]⟩) G):AC Tryz.prog T0 6 [.agg ⟨[.int .i64 n,v]⟩] H K:=by
 apply F6.ac
 unfold F6.B8
 refine newK_f (all_iv (edges_one' h)) fun H1 l1 _ o1=>?_
 unfold F6.B7
 refine ldI_own o1 rfl (ld1_own o1 rfl (graphCode_ok (b:=true) (h.le l1) hl fun H2 l2=>asI_mk ?_))
 have l12:=AHeap.le_trans l1 l2
 have o2:=o1.le l2
 have e:(if IsG n es then (if true=true then 0 else 2) else 1:Int)=grCode n es:=by unfold grCode;simp
 rw [e]
 unfold F6.B6
 refine pif_cases (fun hs=>?_) fun hs=>?_
 ·have hg:¬ IsG n es:=fun h=>by unfold grCode at hs;rw [if_pos h] at hs;simp at hs
  have e0:grCode n es=1:=by unfold grCode;rw [if_neg hg]
  have e:bmCode n es=1:=by unfold bmCode;rw [if_neg hg]
  unfold F6.B5
  have k:=k _ l12
  unfold odVal at k
  rw [e] at k
  rw [e0]
  exact k
 have hg:IsG n es:=by
  unfold grCode at hs
  by_cases h:IsG n es
  ·exact h
  ·rw [if_neg h] at hs;simp at hs
 unfold F6.B4
 refine ldI_own o2 rfl (ld1_own o2 rfl (best_ok (hT.le l12) (h.le l12) hg fun H3 l3=>tup3_mk (asI_mk (asI_mk (asB_mk ?_)))))
 have l13:=AHeap.le_trans l12 l3
 unfold F6.B3
 refine pif_cases (fun hs=>?_) fun hs=>?_
 ·have he:mats n es=[]:=by simpa using hs
  have e:bmCode n es=4:=by unfold bmCode;rw [if_pos hg,if_pos he]
  unfold F6.B2
  have k:=k _ l13
  unfold odVal at k
  rw [e] at k
  exact k
 ·have he:mats n es≠[]:=by simpa using hs
  have e:bmCode n es=0:=by unfold bmCode;rw [if_pos hg,if_neg he]
  unfold F6.B1
  have k:=k _ l13
  unfold odVal at k
  rw [e,if_pos rfl] at k
  exact k
end Go.Proofs
namespace Go.Proofs
open Go.Abs

variable {es:List (Int × Int)} {p:Nat→Bool} {l c O:List Int} {L:List (List Int)} {n:Int} {e:Nat}

theorem bitB_filt {f:Nat→Bool} {m j:Nat}:bitB (filtB f m) j=true↔j<m∧f j=true:=by
 rw [bitB_mem (show IsS (filtB f m) (m:Nat) from asc_isS (filtB_asc f m) fun y hy=>by obtain ⟨q,rfl,h1,_⟩:=mem_filtB.1 hy;omega),mem_filtB]
 constructor
 ·rintro ⟨q,h1,h2,h3⟩
  obtain rfl:j=q:=by omega
  exact ⟨h2,h3⟩
 ·rintro ⟨h2,h3⟩;exact ⟨j,rfl,h2,h3⟩
theorem class_one (hg:IsG n es) (hc:IsC es c) {x:Int} (hx:0≤x∧x≤2):IsS (filtB (fun j=>c.getD j 0==x) es.length) es.length∧OneAt n es (filtB (fun j=>c.getD j 0==x) es.length):=by
 refine ⟨asc_isS (filtB_asc _ _) fun y hy=>by obtain ⟨q,rfl,h1,_⟩:=mem_filtB.1 hy;omega,fun w hw=>?_⟩
 have h:=col_deg hg hc hw hx
 unfold degB at h
 unfold degC
 rw [← filtB_and (fun j=>c.getD j 0==x) (fun j=>on (es.getD j (0,0)) w)]
 rw [← h]
 congr 2
 funext j
 rw [Bool.and_comm]
theorem class_odd (hg:IsG n es) (hc:IsC es c):oddN es (filtB (fun j=>c.getD j 0==0) es.length)=0:=by
 refine zero_oddSum fun x hx=>?_
 obtain ⟨e,⟨he,hp,_⟩,rfl⟩:=mem_lens.1 hx
 have lp:∀ j,j<es.length→(leftP (filtB (fun j=>c.getD j 0==0) es.length) j=true↔c.getD j 0≠0):=fun j hj=>by
  unfold leftP
  rw [Bool.not_eq_true',← Bool.not_eq_true,bitB_filt]
  simp [hj]
 have hce:=(lp e he).1 hp
 have hr:=hc.get e
 have hev:=chain_even hg hc he (b:=3-c.getD e 0) (by omega) (by omega)
 have hadj:eAdj es (leftP (filtB (fun j=>c.getD j 0==0) es.length))=eAdj es (chP c e (3-c.getD e 0)):=by
  refine eAdj_congr fun j hj=>?_
  rw [Bool.eq_iff_iff,lp j hj]
  have hrj:=hc.get j
  unfold chP
  simp only [Bool.or_eq_true,beq_iff_eq]
  omega
 unfold compL
 rw [hadj,cn_filt]
 exact hev
theorem has_iff (hg:IsG n es):(∃ c,IsC es c)↔∃ l,IsS l es.length∧OneAt n es l∧oddN es l=0:=by
 constructor
 ·rintro ⟨c,hc⟩
  obtain ⟨h1,h2⟩:=class_one hg hc (x:=0) (by omega)
  exact ⟨_,h1,h2,class_odd hg hc⟩
 ·rintro ⟨l,h1,h2,h3⟩
  exact ⟨_,(paint_isC hg h1 h2 h3).1⟩
theorem best_fold:∀ (L:List (List Int)) (b:List Int × Int),0≤b.2→(L.foldl (bestS es) b=b∨((L.foldl (bestS es) b).1∈L∧(L.foldl (bestS es) b).2=oddN es (L.foldl (bestS es) b).1))∧(L.foldl (bestS es) b).2≤b.2∧∀ l∈L,(L.foldl (bestS es) b).2≤oddN es l
 | [],b,h=>⟨.inl rfl,Int.le_refl _,fun l hl=>by cases hl⟩
 | a::L,b,h=>by
  rw [List.foldl_cons]
  have hs:bestS es b a=b∧b.2≤oddN es a∨bestS es b a=(a,(oddN es a:Int))∧(oddN es a:Int)<b.2:=by
   unfold bestS
   split
   ·rename_i h';exact .inr ⟨rfl,by omega⟩
   ·rename_i h';exact .inl ⟨rfl,by omega⟩
  rcases hs with ⟨e,hle⟩|⟨e,hlt⟩
  ·rw [e]
   obtain ⟨h1,h2,h3⟩:=best_fold L b h
   refine ⟨h1.elim .inl fun h=>.inr ⟨by simp [h.1],h.2⟩,h2,fun l hl=>?_⟩
   rcases List.mem_cons.1 hl with rfl|hl
   ·omega
   ·exact h3 l hl
  ·rw [e]
   obtain ⟨h1,h2,h3⟩:=best_fold L (a,(oddN es a:Int)) (by show (0:Int)≤(oddN es a:Int);omega)
   have h2:_≤(oddN es a:Int):=h2
   refine ⟨.inr (h1.elim (fun h=>by rw [h];exact ⟨by simp,rfl⟩) fun h=>⟨by simp [h.1],h.2⟩),by omega,fun l hl=>?_⟩
   rcases List.mem_cons.1 hl with rfl|hl
   ·exact h2
   ·exact h3 l hl
theorem bestF_spec (h:L≠[]):(bestF es L).1∈L∧(bestF es L).2=oddN es (bestF es L).1∧∀ l∈L,(bestF es L).2≤oddN es l:=by
 cases L with
 | nil=>exact absurd rfl h
 | cons a L=>
  have e:bestF es (a::L)=L.foldl (bestS es) (a,(oddN es a:Int)):=by
   unfold bestF
   rw [List.foldl_cons]
   congr 1
  rw [e]
  obtain ⟨h1,h2,h3⟩:=best_fold L (a,(oddN es a:Int)) (by show (0:Int)≤(oddN es a:Int);omega)
  have h2:_≤(oddN es a:Int):=h2
  refine ⟨h1.elim (fun h=>by rw [h];simp) fun h=>by simp [h.1],h1.elim (fun h=>by rw [h]) fun h=>h.2,fun l hl=>?_⟩
  rcases List.mem_cons.1 hl with rfl|hl
  ·exact h2
  ·exact h3 l hl
theorem bm_zero (h:bmCode n es=0):IsG n es∧mats n es≠[]:=by
 unfold bmCode at h
 by_cases hg:IsG n es
 ·rw [if_pos hg] at h
  by_cases hm:mats n es=[]
  ·rw [if_pos hm] at h;cases h
  ·exact ⟨hg,hm⟩
 ·rw [if_neg hg] at h;cases h
theorem bm_facts (h:bmCode n es=0):IsM n es (bmList n es)∧IsS (bmList n es) es.length∧OneAt n es (bmList n es)∧odVal n es=oddN es (bmList n es)∧(odVal n es=0↔∃ c,IsC es c):=by
 obtain ⟨hg,hm⟩:=bm_zero h
 have e1:bmList n es=(bestF es (mats n es)).1:=by unfold bmList;rw [if_pos h]
 have e2:odVal n es=(bestF es (mats n es)).2:=by unfold odVal;rw [if_pos h]
 obtain ⟨h1,h2,h3⟩:=bestF_spec (es:=es) hm
 rw [e1,e2]
 obtain ⟨r1,r2,r3⟩:=mats_row2 hg _ h1
 refine ⟨one_isM hg r1 r3,r1,r3,h2,?_⟩
 rw [has_iff hg]
 constructor
 ·intro h0
  exact ⟨_,r1,r3,by omega⟩
 ·rintro ⟨l,g1,g2,g3⟩
  have:=h3 l (mats_all hg g1 g2)
  rw [g3] at this
  omega
theorem co_best (h:bmCode n es=0):coCode n es (bmList n es)=if odVal n es=0 then 0 else 4:=by
 obtain ⟨hg,hm⟩:=bm_zero h
 obtain ⟨h1,_,_,h2,_⟩:=bm_facts h
 unfold coCode
 rw [if_pos hg,if_pos h1]
 by_cases h0:odVal n es=0
 ·rw [if_pos h0,if_neg (by omega)]
 ·rw [if_neg h0,if_pos (by omega)]
theorem co_zero (h:coCode n es l=0):IsG n es∧IsM n es l∧IsC es (coList n es l)∧∀ x∈l,(coList n es l).getD x.toNat 0=0:=by
 have e:coList n es l=pntAll (List.replicate es.length 0) (cycW es (leftP l) es.length) (cycW es (leftP l) es.length).length:=by unfold coList;rw [if_pos h]
 unfold coCode at h
 by_cases hg:IsG n es
 ·rw [if_pos hg] at h
  by_cases hm:IsM n es l
  ·rw [if_pos hm] at h
   by_cases h0:0<oddN es l
   ·rw [if_pos h0] at h;cases h
   ·rw [e]
    exact ⟨hg,hm,paint_isC hg hm.set (isM_one hg hm) (by omega)⟩
  ·rw [if_neg hm] at h;cases h
 ·rw [if_neg hg] at h;cases h
noncomputable def etoB (es:List (Int × Int)) (p:Nat→Bool) (k j:Nat):Bool:=@decide (ETo es p k j) (Classical.propDecidable _)
theorem etoB_iff {k j:Nat}:etoB es p k j=true↔ETo es p k j:=by unfold etoB;simp
theorem sum_snoc (L:List Nat) (x:Nat):(L++[x]).sum=L.sum+x:=by simp
theorem lens_sum:∀ k,k≤es.length→(lensTo es p k).sum=cn (etoB es p k) es.length
 | 0,_=>by
  rw [cn_zero fun i hi=>?_]
  ·rfl
  ·rw [← Bool.not_eq_true,etoB_iff];rintro ⟨_,a,h,_⟩;omega
 | k+1,hk=>by
  have ih:=lens_sum k (by omega)
  by_cases hs:ETo es p k k∨p k=false
  ·rw [lensTo_skip hs,ih]
   refine cn_congr fun i _=>?_
   rw [Bool.eq_iff_iff,etoB_iff,etoB_iff,ETo.skip hs]
  ·have hpk:p k=true:=by
    cases h:p k with
    | true=>rfl
    | false=>exact absurd (.inr h) hs
   have hl:cLeadB es p k=true:=by
    cases h:cLeadB es p k with
    | true=>rfl
    | false=>exact absurd (.inl ((ETo.lead hpk).2 h)) hs
   rw [lensTo,if_pos ⟨hpk,hl⟩,sum_snoc,ih]
   unfold compL
   rw [cn_filt,← cn_add (f:=etoB es p k) (g:=rchB (eAdj es p) k)]
   ·refine cn_congr fun i _=>?_
    rw [Bool.eq_iff_iff,etoB_iff,Bool.or_eq_true,etoB_iff,rchB_iff,ETo.succ]
    constructor
    ·rintro (h|h)
     ·exact .inl h
     ·exact .inr ⟨hpk,(eRch_in h ⟨by omega,hpk⟩).2,h⟩
    ·rintro (h|⟨_,_,h⟩)
     ·exact .inl h
     ·exact .inr h
   ·rintro i _ ⟨h1,h2⟩
    rw [etoB_iff] at h1
    rw [rchB_iff] at h2
    obtain ⟨_,a,ha,hpa,hr⟩:=h1
    exact hs (.inl ⟨hpk,a,ha,hpa,hr.trans (eRch_symm h2 ⟨by omega,hpk⟩)⟩)
theorem lens_all:(lensTo es p es.length).sum=cn p es.length:=by
 rw [lens_sum es.length (Nat.le_refl _)]
 refine cn_congr fun i hi=>?_
 rw [Bool.eq_iff_iff,etoB_iff]
 constructor
 ·exact fun h=>h.1
 ·intro h
  obtain ⟨e,he,hr⟩:=lead_get hi h
  exact ⟨h,e,he.1,he.2.1,hr⟩
theorem cn_compl (f:Nat→Bool):∀ k,cn f k+cn (fun j=>!f j) k=k
 | 0=>rfl
 | k+1=>by
  have:=cn_compl f k
  rw [cn,cn]
  cases h:f k <;> simp <;> omega
theorem left_sum (hg:IsG n es) (hm:IsM n es l):((lensTo es (leftP l) es.length).sum:Int)=n:=by
 rw [lens_all]
 have h1:=cn_compl (bitB l) es.length
 have h2:l.length=cn (bitB l) es.length:=by
  have:=congrArg List.length hm.set.filt
  rwa [cn_filt] at this
 have h3:=hm.len
 have h4:=hg.ed.len
 have h5:=hg.ed.even
 have:cn (leftP l) es.length=cn (fun j=>!bitB l j) es.length:=rfl
 omega
theorem oddSum_par:∀ L:List Nat,oddSum L%2=L.sum%2
 | []=>rfl
 | a::L=>by
  have:=oddSum_par L
  unfold oddSum at this ⊢
  rw [List.map_cons,List.sum_cons,List.sum_cons]
  omega
theorem oddN_even (hg:IsG n es) (hm:IsM n es l):oddN es l%2=0:=by
 unfold oddN
 rw [oddSum_par]
 have:=left_sum hg hm
 have:=hg.ed.even
 omega
-- covers
theorem covB_get {m:Nat} (hr:∀ l∈L,∀ x∈l,0≤x):∀ k s,covB L m k s=true→∃ ls:List (List Int),ls.length≤k∧(∀ l∈ls,l∈L)∧∀ j:Nat,j<m→s.testBit j=true∨∃ l∈ls,(j:Int)∈l:=by
 have full:∀ {s},fv s m=m→∀ j:Nat,j<m→s.testBit j=true∨∃ l∈([]:List (List Int)),(j:Int)∈l:=fun h j hj=>.inl (fv_below (n:=m) (by omega))
 intro k
 induction k with
 | zero=>
  intro s h
  by_cases hf:fv s m=m
  ·exact ⟨[],by simp,fun l hl=>absurd hl (by simp),full hf⟩
  ·rw [covB_zero hf] at h;cases h
 | succ k ih=>
  intro s h
  by_cases hf:fv s m=m
  ·exact ⟨[],by simp,fun l hl=>absurd hl (by simp),full hf⟩
  ·rw [covB_succ hf,List.any_eq_true] at h
   obtain ⟨l,hl,h⟩:=h
   rw [Bool.and_eq_true] at h
   obtain ⟨ls,h1,h2,h3⟩:=ih _ h.2
   refine ⟨l::ls,by simp;omega,fun x hx=>(List.mem_cons.1 hx).elim (fun e=>by rw [e];exact hl) (h2 x),fun j hj=>?_⟩
   rcases h3 j hj with h|⟨l',h4,h5⟩
   ·rw [Nat.testBit_or,Bool.or_eq_true] at h
    rcases h with h|h
    ·exact .inl h
    ·rw [setN_bit (hr l hl)] at h
     exact .inr ⟨l,by simp,of_decide_eq_true h⟩
   ·exact .inr ⟨l',by simp [h4],h5⟩
theorem covB_of {m:Nat} (hr:∀ l∈L,∀ x∈l,0≤x):∀ k s (ls:List (List Int)),ls.length=k→(∀ l∈ls,l∈L)→(∀ j:Nat,j<m→s.testBit j=true∨∃ l∈ls,(j:Int)∈l)→covB L m k s=true:=by
 intro k
 induction k with
 | zero=>
  intro s ls hk hL hc
  have:ls=[]:=List.length_eq_zero_iff.1 hk
  subst this
  refine covB_full (Classical.byContradiction fun hf=>?_) 0
  have hlt:fv s m<m:=by have:=fv_le s m;omega
  rcases hc _ hlt with h|⟨l,hl,_⟩
  ·rw [fv_at hlt] at h;cases h
  ·cases hl
 | succ k ih=>
  intro s ls hk hL hc
  by_cases hf:fv s m=m
  ·exact covB_full hf _
  ·have hlt:fv s m<m:=by have:=fv_le s m;omega
   rw [covB_succ hf,List.any_eq_true]
   rcases hc _ hlt with h|⟨l,hl,hx⟩
   ·rw [fv_at hlt] at h;cases h
   ·refine ⟨l,hL l hl,?_⟩
    rw [Bool.and_eq_true]
    refine ⟨decide_eq_true hx,ih _ (ls.erase l) (by rw [List.length_erase_of_mem hl];omega) (fun x hx=>hL x (List.mem_of_mem_erase hx)) fun j hj=>?_⟩
    rcases hc j hj with h|⟨l',hl',hx'⟩
    ·left;rw [Nat.testBit_or,h];rfl
    ·by_cases e:l'=l
     ·left;rw [Nat.testBit_or,setN_bit (hr l (hL l hl)),← e,decide_eq_true hx'];simp
     ·right;exact ⟨l',(List.mem_erase_of_ne e).2 hl',hx'⟩
theorem cov_three (hg:IsG n es):covB (mats n es) es.length 3 0=true↔∃ c,IsC es c:=by
 have hr:∀ l∈mats n es,∀ x∈l,0≤x:=fun l hl x hx=>((mats_row hg l hl).1.range x hx).1
 constructor
 ·intro h
  obtain ⟨ls,h1,h2,h3⟩:=covB_get hr 3 0 h
  have hall:∀ j:Nat,j<es.length→∃ l∈ls,(j:Int)∈l:=fun j hj=>(h3 j hj).elim (fun h=>by simp at h) id
  obtain ⟨a,ha⟩:∃ a,a=ls.getD 0 []:=⟨_,rfl⟩
  obtain ⟨b,hb⟩:∃ b,b=ls.getD 1 []:=⟨_,rfl⟩
  obtain ⟨d,hd⟩:∃ d,d=ls.getD 2 []:=⟨_,rfl⟩
  have hone:∀ i,i<3→∀ x y w:Nat,x≠y→(x:Int)∈ls.getD i []→(y:Int)∈ls.getD i []→on (es.getD x (0,0)) w=true→on (es.getD y (0,0)) w=true→(w:Int)<n→False:=fun i hi x y w hxy h1 h2' o1 o2 hw=>by
   by_cases hil:i<ls.length
   ·rw [getD_of hil] at h1 h2'
    exact one_two (mats_one hg (h2 _ (List.getElem_mem hil))) hxy h1 h2' o1 o2 hw
   ·simp [List.getD,List.getElem?_eq_none (show ls.length≤i by omega)] at h1
  have mem3:∀ j:Nat,j<es.length→(j:Int)∈a∨(j:Int)∈b∨(j:Int)∈d:=fun j hj=>by
   obtain ⟨l,hl,hx⟩:=hall j hj
   obtain ⟨i,hi,rfl⟩:=List.getElem_of_mem hl
   rw [← getD_of (d:=[]) hi] at hx
   have:i=0∨i=1∨i=2:=by omega
   rcases this with rfl|rfl|rfl
   ·left;rw [ha];exact hx
   ·right;left;rw [hb];exact hx
   ·right;right;rw [hd];exact hx
  obtain ⟨f,hf⟩:∃ f:Nat→Int,∀ j:Nat,f j=if (j:Int)∈a then (0:Int) else if (j:Int)∈b then 1 else 2:=⟨fun j=>if (j:Int)∈a then (0:Int) else if (j:Int)∈b then 1 else 2,fun _=>rfl⟩
  refine ⟨(List.range es.length).map f,by simp,fun x hx=>?_,fun j hj i hij hsh=>?_⟩
  ·obtain ⟨j,_,rfl⟩:=List.mem_map.1 hx
   rw [hf]
   split
   ·omega
   ·split <;> omega
  ·obtain ⟨w,hw,o1,o2⟩:=share_nat hg (show i<es.length by omega) hsh
   have get:∀ q,q<es.length→((List.range es.length).map f).getD q 0=f q:=fun q hq=>by
    rw [getD_of (by simpa using hq),List.getElem_map,List.getElem_range]
   rw [get i (by omega),get j hj]
   intro e
   have mi:=mem3 i (by omega)
   have mj:=mem3 j hj
   have hij':i≠j:=by omega
   rw [hf,hf] at e
   by_cases ia:(i:Int)∈a
   ·rw [if_pos ia] at e
    by_cases ja:(j:Int)∈a
    ·rw [ha] at ia ja;exact hone 0 (by omega) i j w hij' ia ja o1 o2 hw
    ·rw [if_neg ja] at e;split at e <;> omega
   ·rw [if_neg ia] at e
    by_cases ib:(i:Int)∈b
    ·rw [if_pos ib] at e
     by_cases ja:(j:Int)∈a
     ·rw [if_pos ja] at e;omega
     ·rw [if_neg ja] at e
      by_cases jb:(j:Int)∈b
      ·rw [hb] at ib jb;exact hone 1 (by omega) i j w hij' ib jb o1 o2 hw
      ·rw [if_neg jb] at e;omega
    ·rw [if_neg ib] at e
     by_cases ja:(j:Int)∈a
     ·rw [if_pos ja] at e;omega
     ·rw [if_neg ja] at e
      by_cases jb:(j:Int)∈b
      ·rw [if_pos jb] at e;omega
      ·have di:(i:Int)∈d:=mi.elim (fun h=>absurd h ia) fun h=>h.elim (fun h=>absurd h ib) id
       have dj:(j:Int)∈d:=mj.elim (fun h=>absurd h ja) fun h=>h.elim (fun h=>absurd h jb) id
       rw [hd] at di dj
       exact hone 2 (by omega) i j w hij' di dj o1 o2 hw
 ·rintro ⟨c,hc⟩
  have cl:∀ x:Int,0≤x∧x≤2→filtB (fun j=>c.getD j 0==x) es.length∈mats n es:=fun x hx=>by
   obtain ⟨h1,h2⟩:=class_one hg hc hx
   exact mats_all hg h1 h2
  refine covB_of hr 3 0 [filtB (fun j=>c.getD j 0==0) es.length,filtB (fun j=>c.getD j 0==1) es.length,filtB (fun j=>c.getD j 0==2) es.length] rfl (fun l hl=>?_) fun j hj=>.inr ?_
  ·simp only [List.mem_cons,List.not_mem_nil,or_false] at hl
   rcases hl with rfl|rfl|rfl
   ·exact cl 0 (by omega)
   ·exact cl 1 (by omega)
   ·exact cl 2 (by omega)
  ·have hr:=hc.get j
   have mem:∀ x:Int,c.getD j 0=x→(j:Int)∈filtB (fun j=>c.getD j 0==x) es.length:=fun x hx=>mem_filtB.2 ⟨j,rfl,hj,beq_iff_eq.2 hx⟩
   have:c.getD j 0=0∨c.getD j 0=1∨c.getD j 0=2:=by omega
   rcases this with h|h|h
   ·exact ⟨_,by simp,mem 0 h⟩
   ·exact ⟨filtB (fun j=>c.getD j 0==1) es.length,by simp,mem 1 h⟩
   ·exact ⟨filtB (fun j=>c.getD j 0==2) es.length,by simp,mem 2 h⟩
theorem covN_ge (L:List (List Int)) (m:Nat):∀ f k,k≤covN L m f k
 | 0,k=>Nat.le_refl _
 | f+1,k=>by
  rw [covN]
  split
  ·exact Nat.le_refl _
  ·have:=covN_ge L m f (k+1);omega
theorem cv_zero (h:cvCode n es=0):IsG n es∧3≤cvVal n es∧(cvVal n es=3↔∃ c,IsC es c):=by
 have hg:IsG n es:=by
  apply Classical.byContradiction
  intro hn
  unfold cvCode at h;rw [if_neg hn] at h;cases h
 have e:cvVal n es=((covN (mats n es) es.length 31 3:Nat):Int):=by unfold cvVal;rw [if_pos h]
 have h1:=covN_ge (mats n es) es.length 31 3
 refine ⟨hg,by omega,?_⟩
 rw [← cov_three hg,e]
 have hs:covN (mats n es) es.length 31 3=if covB (mats n es) es.length 3 0 then 3 else covN (mats n es) es.length 30 4:=rfl
 rw [hs]
 cases hb:covB (mats n es) es.length 3 0 with
 | true=>simp
 | false=>
  have:=covN_ge (mats n es) es.length 30 4
  simp
  omega
end Go.Proofs
namespace Go.Proofs
open Go.Abs

variable {H G G' Hb H0:AHeap} {v u f w:Value} {l m c D:List Int} {es fs:List (Int × Int)} {K:Value→AHeap→Prop} {bs:Nat} {n:Int}

theorem drawOdd_ok (hB:Byts H u l) (hl:l.length≤4096) (k:DrwK H K):AC Tryz.prog T0 5 [u] H K:=by
 apply F5.ac
 unfold F5.B2
 refine newK_f rfl fun H1 l1 n1 o1=>?_
 unfold F5.B1
 refine l01From_ok (hB.le l1) hl fun G1 g1 s1=>l01Spoil_ok s1 fun v2 n2 es2 G2 k2 s2 h2 c2 _ _=>agg2_mk (asI_mk ?_)
 have hs1:=s1.lt
 have hlt:=o1.lt
 exact put_graph (k2.own (o1.le g1) (by omega)) (AHeap.le_trans l1 s2.1) (Nat.le_refl _) h2 (by omega) fun G' _ lG eG=>k v2 n2 es2 G' lG (eG.less (by omega)) c2
theorem l04Small_ok (hs:Src Hb bs H) (k:∀ v' n' es' G,Kb bs H G→Src Hb bs G→Sl H.length G v' 84 2 (LE es')→es'.length≤2000→K (.agg ⟨[.int .i64 n',v']⟩) G):AC Tryz.prog T0 36 [.pointer (some ⟨bs,0,none⟩)] H K:=by
 have hbs:=hs.lt
 apply F36.ac
 unfold F36.B4
 refine newK_f rfl fun H1 l1 n1 o1=>?_
 have hlt:=o1.lt
 have fin:∀ G v' n' es',Kb bs H1 G→Src Hb bs G→Sl H1.length G v' 84 2 (LE es')→es'.length≤2000→stK G H.length 0 [.int .i64 n',v'] (fun H7=>ldI .i64 H7 H.length 0 (fun v8=>ld1 H7 H.length 1 (fun v9=>K (.agg ⟨[.int .i64 v8,v9]⟩) H7))):=fun G v' n' es' kb s h hc=>by
  refine draw_tail s ((Kb.of_le l1).trans kb) hbs (Nat.le_refl _) (kb.own o1 (by omega)) (sl_one h) fun G9 b9 kb9 s9=>k v' n' es' G9 kb9 s9 ((h.but b9 (by omega)).less (by omega)) hc
 unfold F36.B3
 refine l01Next_ok (hs.le l1) fun r G1 k1 s1 _ _ _=>asI_mk (pif_cases (fun _=>?_) fun _=>?_)
 ·unfold F36.B2
  have hk:=k1.len
  exact l01Spoil_ok s1 fun v2 n2 es2 G2 k2 s2 h2 c2 _ _=>agg2_mk (asI_mk (fin G2 v2 n2 es2 (k1.trans k2) s2 (h2.less (by omega)) c2))
 ·unfold F36.B1
  have hk:=k1.len
  exact l01Small_ok s1 fun v2 n2 es2 G2 k2 s2 f2 g2 _ _=>agg2_mk (asI_mk (fin G2 v2 n2 es2 (k1.trans k2) s2 (f2.sl.less (by omega)) (by have:=g2.len;omega)))
theorem drawCover_ok (hB:Byts H u l) (hl:l.length≤4096) (k:DrwK H K):AC Tryz.prog T0 14 [u] H K:=by
 apply F14.ac
 unfold F14.B2
 refine newK_f rfl fun H1 l1 n1 o1=>?_
 unfold F14.B1
 refine l01From_ok (hB.le l1) hl fun G1 g1 s1=>l04Small_ok s1 fun v2 n2 es2 G2 k2 s2 h2 c2=>agg2_mk (asI_mk ?_)
 have hs1:=s1.lt
 have hlt:=o1.lt
 exact put_graph (k2.own (o1.le g1) (by omega)) (AHeap.le_trans l1 s2.1) (Nat.le_refl _) h2 (by omega) fun G' _ lG eG=>k v2 n2 es2 G' lG (eG.less (by omega)) c2
theorem l04Draw_ok (hB:Byts H u l) (hl:l.length≤4096) (k:DrwL H K):AC Tryz.prog T0 26 [u] H K:=by
 apply F26.ac
 unfold F26.B9
 refine newK_f rfl fun H1 l1 n1 o1=>?_
 unfold F26.B8
 refine l01From_ok (hB.le l1) hl fun G1 g1 s1=>?_
 have hs1:=s1.lt
 have hlt:=o1.lt
 unfold F26.B7
 refine l01Spoil_ok s1 fun v2 n2 es2 G2 k2 s2 h2 c2 a0 a1=>agg2_mk (asI_mk (newK_f rfl fun G4 l4 n4 o4=>stK_f (new:=[.int .i64 n2,v2]) o4 (by simp) (mem_iv (sl_one h2)) rfl fun G5 b5 o5=>?_))
 have l5:G2.le G5:=b5.le l4 (Nat.le_refl _)
 have ob2:=k2.own (o1.le g1) (by omega)
 have hs2:=s2.lt
 have hl5:=l5.1
 have ob5:=ob2.le l5
 have s5:=s2.le l5
 have h5:Sl (H1.length+1) G5 v2 84 2 (LE es2):=(h2.le l5).less (by omega)
 unfold F26.B6
 refine ldI_own o5 rfl (ld1_own o5 rfl (l01Is_ok (sl_edges h5) (by omega) fun G6 l6=>asB_mk (pif_cases (fun hg=>?_) fun hg=>?_)))
 ·unfold F26.B5
  have o6:=o5.le l6
  refine ldI_own o6 rfl (ld1_own o6 rfl (newK_f rfl fun G7 l7 n7 o7=>?_))
  have hl6:=l6.1
  have l57:=AHeap.le_trans l6 l7
  exact with_tail (l:=[0]) k (AHeap.le_trans l1 (s5.le l57).1) (Nat.le_refl _) (ob5.le l57) ((h5.le l57).less (by omega)) (.inr ⟨G6.length,1,by omega,rfl,o7,rfl⟩) c2 (by simp) a0 a1
 have hg:IsG n2 es2:=by simpa using hg
 have o6:=o5.le l6
 have h6:=h5.le l6
 unfold F26.B4
 refine ldI_own o6 rfl (ld1_own o6 rfl (l04All_ok hg (sl_edges h6) fun x6 G7 l7 hR=>?_))
 have l57:=AHeap.le_trans l6 l7
 have s7:=s5.le l57
 have o7:=o5.le l57
 have ob7:=ob5.le l57
 have h7:=h5.le l57
 have hl6:=l6.1
 have hl7:=l7.1
 -- two numbers
 have two:∀ G,Kb H1.length G7 G→Src H1 H1.length G→F26.B2 K H.length (.pointer (some ⟨H1.length,0,none⟩)) G2.length G:=by
  intro G kG sG
  have oG:=kG.own o7 (by omega)
  unfold F26.B2
  refine ldI_own oG rfl (ld1_own oG rfl (newK_f rfl fun G8 l8 n8 o8=>?_))
  have hsG:=sG.lt
  refine l01Pick_ok (l:=[1,2,3,-1,40]) (sG.le l8) (own_ints (l:=[1,2,3,-1,40]) o8) (by simp) (by simp) (fun x hx=>by simp at hx;omega) (fun G3 k3=>own_ints (l:=[1,2,3,-1,40]) (k3.own o8 (by omega))) fun r G9 k9 s9 hr=>asI_mk ?_
  have kk:=(kG.trans (.of_le l8)).trans k9
  have o9:=kk.own o7 (by omega)
  have ob9:=kk.own ob7 (by omega)
  have h9:=sl_kb h7 kk
  have hkk:=kk.len
  have h09:=AHeap.le_trans l1 s9.1
  refine ⟨ldI_own o9 rfl (ld1_own o9 rfl ⟨rfl,rfl⟩),newK_f rfl fun G10 l10 n10 o10=>?_,?_⟩
  ·exact with_tail k (AHeap.le_trans h09 l10) (Nat.le_refl _) (ob9.le l10) ((h9.le l10).less (by omega)) (.inr ⟨G9.length,2,by omega,rfl,o10,rfl⟩:Fresh (H.length+1) G10 _ 2 1 (LI [0,r])) c2 (by simp) a0 a1
  ·refine stK_f (new:=[.int .i64 n2,v2]) ob9 (by simp) (mem_iv (sl_one h9)) rfl fun G10 b10 o10=>newK_f rfl fun G11 l11 n11 o11=>ldI_own (o10.le l11) rfl (ld1_own (o10.le l11) rfl ?_)
   have hb10:=b10.len
   exact k v2 n2 es2 _ [0,r] G11 (AHeap.le_trans (b10.le h09 (Nat.le_refl _)) l11) (((h9.but b10 (by omega)).le l11).less (by omega)) (.inr ⟨G10.length,2,by omega,rfl,o11,rfl⟩) c2 (by simp) a0 a1
 unfold F26.B3
 refine hR.len (pif_cases (fun _=>two G7 (.of_le (AHeap.le_refl _)) s7) fun hz=>l01Next_ok s7 fun r G8 k8 s8 _ _ _=>asI_mk (pif_cases (fun _=>two G8 k8 s8) fun _=>?_))
 have hpos:0<(mats n2 es2).length:=by have:=beq_eq_false_iff_ne.1 hz;omega
 have hmat:=mats_length hg
 unfold F26.B1
 have o8:=k8.own o7 (by omega)
 have hR8:=hR.move (G:=G8) fun b o ha _ ho=>k8.old b o (by omega) ho
 refine ldI_own o8 rfl (ld1_own o8 rfl (hR8.len (l01Next_ok s8 fun q G9 k9 s9 q0 q1 _=>asI_mk ?_)))
 have hq:=q1 (by omega)
 have o9:=k9.own o8 (by omega)
 have kk:=k8.trans k9
 have ob9:=kk.own ob7 (by omega)
 have h9:=sl_kb h7 kk
 have hR9:=hR8.move (G:=G9) fun b o ha _ ho=>k9.old b o (by omega) ho
 obtain ⟨q,rfl⟩:∃ q':Nat,q=q':=⟨q.toNat,by omega⟩
 have hql:q<(mats n2 es2).length:=by omega
 have h09:=AHeap.le_trans l1 s9.1
 refine ⟨ldI_own o9 rfl (ld1_own o9 rfl ⟨rfl,rfl⟩),?_⟩
 obtain ⟨vs,r1,r2,r3,r4⟩:=hR9
 obtain ⟨w,t1,t2,t3⟩:=r4 q hql
 have hwl:((mats n2 es2).getD q []).length≤30:=by rw [getD_of hql];exact (mats_row hg _ (List.getElem_mem hql)).2
 rcases r1 with ⟨e,_⟩|⟨b,c,hb,rfl,rb,rl⟩
 ·rw [e] at t1;simp at t1
 have hbA:=(r3 b rfl).1
 have hl9:=k9.len
 have hvl:q<vs.length:=by
  obtain ⟨hh,_⟩:=List.getElem?_eq_some_iff.1 t1;exact hh
 refine own_idx (by omega) (by omega) (ld1_own rb (by rw [Int.toNat_natCast];exact t1) (stK_f (new:=[.int .i64 n2,v2]) ob9 (by simp) (mem_iv (sl_one h9)) rfl fun G10 b10 o10=>⟨ld1_own (b10.own rb (by omega)) (by rw [Int.toNat_natCast];exact t1) ⟨rfl,rfl⟩,ldI_own o10 rfl (ld1_own o10 rfl ?_)⟩))
 have fw:Fresh (H.length+1) G9 w 2 1 (LI ((mats n2 es2).getD q [])):=fresh_more t2 fun b hb=>by have:=(t3 b hb).1;omega
 exact k v2 n2 es2 w _ G10 (b10.le h09 (Nat.le_refl _)) ((h9.but b10 (by omega)).less (by omega)) ((fw.but b10 (by omega)).less (by omega)) c2 (by omega) a0 a1
theorem bm_len (h:es.length≤2000):(bmList n es).length≤2000:=by
 by_cases h0:bmCode n es=0
 ·obtain ⟨_,h1,_⟩:=bm_facts h0
  have:(bmList n es).length≤es.length:=by rw [h1.filt];exact filtB_length _ _
  omega
 ·unfold bmList;rw [if_neg h0];simp
theorem drawColouring_ok (hB:Byts H u l) (hl:l.length≤4096) (k:DrwL H K):AC Tryz.prog T0 11 [u] H K:=by
 apply F11.ac
 unfold F11.B6
 refine newK_f rfl fun H1 l1 n1 o1=>?_
 unfold F11.B5
 refine l04Draw_ok (hB.le l1) hl fun v2 n2 es2 w2 l2 G2 g2 h2 f2 c1 c2 c3 c4=>tup2_mk (agg2_mk (asI_mk (newK_f rfl fun G4 l4 n4 o4=>stK_f (new:=[.int .i64 n2,v2]) o4 (by simp) (mem_iv (sl_one h2)) rfl fun G5 b5 o5=>?_)))
 have l5:G2.le G5:=b5.le l4 (Nat.le_refl _)
 rw [n1] at h2 f2
 have l15:=AHeap.le_trans g2 l5
 unfold F11.B4
 refine ldI_own o5 rfl (ld1_own o5 rfl (specBest_ok ((sl_edges h2).le l5) (by omega) fun w6 G6 l6 f6=>tup2_mk (asI_mk ?_)))
 have hl5:=l5.1
 have hlt:=o1.lt
 have hg2:=g2.1
 have fin:∀ G w l,G6.le G→Fresh (H.length+1) G w 2 1 (LI l)→l.length≤3000→ldI .i64 G G2.length 0 (fun v1=>ld1 G G2.length 1 (fun v2=>stK G H.length 0 [.int .i64 v1,v2] (fun H3=>ldI .i64 H3 H.length 0 (fun v4=>ld1 H3 H.length 1 (fun v5=>K (.tuple ⟨[.agg ⟨[.int .i64 v4,v5]⟩,w]⟩) H3))))):=by
  intro G w l lG fw hwl
  have l6G:=AHeap.le_trans l6 lG
  have oG:=o5.le l6G
  refine ldI_own oG rfl (ld1_own oG rfl ?_)
  exact with_tail k (AHeap.le_trans l1 (AHeap.le_trans l15 l6G)) (Nat.le_refl _) ((o1.le l15).le l6G) ((h2.le l5).le l6G) fw c1 hwl c3 c4
 have other:∀ G,G6.le G→F11.B1 K H.length G2.length w2 G:=fun G lG=>by
  unfold F11.B1
  exact fin G w2 l2 lG (((f2.le l5).le l6).le lG) c2
 unfold F11.B3
 refine pif_cases (fun _=>?_) fun _=>other G6 (AHeap.le_refl _)
 refine l01From_ok (hB.le (AHeap.le_trans l1 (AHeap.le_trans l15 l6))) hl fun G7 g7 s7=>l01Next_ok s7 fun r G8 k8 s8 _ _ _=>asI_mk (pif_cases (fun _=>?_) fun _=>other G8 s8.1)
 unfold F11.B2
 exact fin G8 w6 _ s8.1 ((f6.le s8.1).less (by omega)) (by have:=bm_len (n:=n2) c1;omega)
end Go.Proofs
namespace Go.Proofs
open Go.Abs

noncomputable instance (a b:Int × Int):Decidable (share a b):=Classical.propDecidable _
noncomputable def clashB (es:List (Int × Int)) (c:List Int) (i:Nat) (x:Int):Bool:=@decide (∃ j,j<c.length∧c.getD j 0=x∧share (es.getD j (0,0)) (es.getD i (0,0))) (Classical.propDecidable _)
theorem clashB_iff {es:List (Int × Int)} {c:List Int} {i:Nat} {x:Int}:clashB es c i x=true↔∃ j,j<c.length∧c.getD j 0=x∧share (es.getD j (0,0)) (es.getD i (0,0)):=by unfold clashB;simp
end Go.Proofs
namespace Go.Proofs
open Go.Abs

variable {H G:AHeap} {v u f:Value} {l m c D:List Int} {es fs:List (Int × Int)} {K:Value→AHeap→Prop}

theorem nilK_mk {b o:Nat} {K:Value→Prop} (h:K (.pointer (some ⟨b,o,none⟩))):nilK (.pointer (some ⟨b,o,none⟩)) K:=h
theorem asTup_mk {xs:List Value} {K:List Value→Prop} (h:K xs):asTup (.tuple ⟨xs⟩) K:=h
structure Two (cb ub:Nat) (G G':AHeap):Prop where
 len:G.length≤G'.length
 old:∀ (b:Nat) (o:AObj),b≠cb→b≠ub→G[b]?=some (some o)→G'[b]?=some (some o)
theorem Two.le {cb ub:Nat} {G G':AHeap} (h:G.le G'):Two cb ub G G':=⟨h.1,fun b o _ _ ho=>h.2 b o ho⟩
theorem Two.trans {cb ub:Nat} {G G' G2:AHeap} (h:Two cb ub G G') (k:Two cb ub G' G2):Two cb ub G G2:=⟨Nat.le_trans h.len k.len,fun b o h1 h2 ho=>k.old b o h1 h2 (h.old b o h1 h2 ho)⟩
theorem Two.base {cb ub:Nat} {H0 G G':AHeap} (h:Two cb ub G G') (h0:H0.le G) (hc:H0.length≤cb) (hu:H0.length≤ub):H0.le G':=
 ⟨Nat.le_trans h0.1 h.len,fun b o ho=>by have:=lt_of_get ho;exact h.old b o (by omega) (by omega) (h0.2 b o ho)⟩
theorem Two.butC {cb ub:Nat} {G G':AHeap} (h:But cb G G'):Two cb ub G G':=⟨Nat.le_of_eq h.len.symm,fun b o h1 _ ho=>by rw [h.same b h1];exact ho⟩
theorem Two.butU {cb ub:Nat} {G G':AHeap} (h:But ub G G'):Two cb ub G G':=⟨Nat.le_of_eq h.len.symm,fun b o _ h1 ho=>by rw [h.same b h1];exact ho⟩
theorem LUget2 {Z:List Nat} {i:Nat} (h:i<Z.length):(LU Z)[i]?=some (.int .u64 (Z.getD i 0:Nat)):=by simp [h]
def orAt (u:List Nat) (w x:Nat):List Nat:=u.set w (u.getD w 0|||2^x)
def offAtU (u:List Nat) (w x:Nat):List Nat:=u.set w (u.getD w 0&&&(2^64-(2^x+1)))
theorem off_or {s x:Nat} (hs:s<2^64) (hx:x<64) (hb:s.testBit x=false):(s|||2^x)&&&(2^64-(2^x+1))=s:=by
 have px:2^x<2^64:=Nat.pow_lt_pow_right (by decide) hx
 apply Nat.eq_of_testBit_eq
 intro j
 rw [Nat.testBit_and,Nat.testBit_or,Nat.testBit_two_pow_sub_succ px,Nat.testBit_two_pow]
 by_cases hj:j<64
 ·by_cases e:x=j
  ·subst e;simp [hb]
  ·simp [hj,e]
 ·rw [testBit_big hs (by omega)];simp [hj]
theorem getN_set_self {l:List Nat} {i x:Nat} (h:i<l.length):(l.set i x).getD i 0=x:=by simp [List.getD,h]
theorem getN_set_ne {l:List Nat} {i j x:Nat} (h:i≠j):(l.set i x).getD j 0=l.getD j 0:=by simp [List.getD,List.getElem?_set,h]
theorem set_getN {l:List Nat} {i:Nat} (h:i<l.length):l.set i (l.getD i 0)=l:=by rw [getD_of h];exact List.set_getElem_self h
theorem give_take {u:List Nat} {a b x:Nat} (ha:a<u.length) (hb:b<u.length) (hab:a≠b) (hx:x<64) (h1:u.getD a 0<2^64) (h2:u.getD b 0<2^64) (b1:(u.getD a 0).testBit x=false) (b2:(u.getD b 0).testBit x=false) :
 offAtU (offAtU (orAt (orAt u a x) b x) a x) b x=u:=by
 unfold offAtU orAt
 have e1:((u.set a (u.getD a 0|||2^x)).getD b 0)=u.getD b 0:=getN_set_ne hab
 rw [e1]
 have e2:(((u.set a (u.getD a 0|||2^x)).set b (u.getD b 0|||2^x)).getD a 0)=u.getD a 0|||2^x:=by
  rw [getN_set_ne (fun e=>hab e.symm),getN_set_self ha]
 rw [e2,off_or h1 hx b1]
 have e3:((((u.set a (u.getD a 0|||2^x)).set b (u.getD b 0|||2^x)).set a (u.getD a 0)).getD b 0)=u.getD b 0|||2^x:=by
  rw [getN_set_ne hab,getN_set_self (by simpa using hb)]
 rw [e3,off_or h2 hx b2]
 rw [List.set_comm _ _ hab,List.set_set,List.set_comm _ _ (fun e=>hab e.symm),List.set_set,set_getN ha,set_getN hb]
def UsedOk (es:List (Int × Int)) (n:Nat) (c:List Int) (u:List Nat):Prop:=u.length=n∧∀ w,w<n→u.getD w 0<2^64∧∀ k:Nat,(u.getD w 0).testBit k=true↔∃ j,j<c.length∧c.getD j 0=k∧on (es.getD j (0,0)) w=true
theorem UsedOk.give {n:Nat} {c:List Int} {u:List Nat} {a b i x:Nat} (h:UsedOk es n c u) (hi:i<c.length) (hc:c.getD i 0=-1) (he:es.getD i (0,0)=((a:Int),(b:Int))) (ha:a<n) (hb:b<n) (hab:a≠b) (hx:x<64):UsedOk es n (c.set i (x:Int)) (orAt (orAt u a x) b x):=by
 obtain ⟨h1,h2⟩:=h
 have px:2^x<2^64:=Nat.pow_lt_pow_right (by decide) hx
 have hon:∀ w:Nat,on (es.getD i (0,0)) w=true↔a=w∨b=w:=fun w=>by
  rw [he];unfold on;simp only [Bool.or_eq_true,beq_iff_eq];omega
 have hget:∀ w,w<n→(orAt (orAt u a x) b x).getD w 0=if on (es.getD i (0,0)) w=true then u.getD w 0|||2^x else u.getD w 0:=by
  intro w hw
  unfold orAt
  have e1:((u.set a (u.getD a 0|||2^x)).getD b 0)=u.getD b 0:=getN_set_ne hab
  rw [e1]
  by_cases e2:b=w
  ·subst e2
   rw [getN_set_self (by simp;omega),if_pos ((hon b).2 (.inr rfl))]
  ·rw [getN_set_ne e2]
   by_cases e3:a=w
   ·subst e3
    rw [getN_set_self (by omega),if_pos ((hon a).2 (.inl rfl))]
   ·rw [getN_set_ne e3,if_neg fun h=>((hon w).1 h).elim e3 e2]
 refine ⟨by simp [orAt,h1],fun w hw=>?_⟩
 rw [hget w hw]
 obtain ⟨g1,g2⟩:=h2 w hw
 refine ⟨by split;exact or_lt g1 px;exact g1,fun k=>?_⟩
 constructor
 ·intro hk
  by_cases ho:on (es.getD i (0,0)) w=true
  ·rw [if_pos ho,Nat.testBit_or,Bool.or_eq_true,Nat.testBit_two_pow,decide_eq_true_iff] at hk
   rcases hk with hk|hk
   ·obtain ⟨j,j1,j2,j3⟩:=(g2 k).1 hk
    have hne:i≠j:=fun e=>by subst e;omega
    exact ⟨j,by simpa using j1,by rw [getD_set_ne hne];exact j2,j3⟩
   ·exact ⟨i,by simpa using hi,by rw [getD_set_self hi];omega,ho⟩
  ·rw [if_neg ho] at hk
   obtain ⟨j,j1,j2,j3⟩:=(g2 k).1 hk
   have hne:i≠j:=fun e=>by subst e;omega
   exact ⟨j,by simpa using j1,by rw [getD_set_ne hne];exact j2,j3⟩
 ·rintro ⟨j,j1,j2,j3⟩
  by_cases e:i=j
  ·subst e
   rw [getD_set_self hi] at j2
   rw [if_pos j3,Nat.testBit_or,Bool.or_eq_true,Nat.testBit_two_pow,decide_eq_true_iff]
   right;omega
  ·rw [getD_set_ne e] at j2
   have:=(g2 k).2 ⟨j,by simpa using j1,j2,j3⟩
   split
   ·rw [Nat.testBit_or,this];rfl
   ·exact this
theorem used_clash {n:Nat} {c:List Int} {u:List Nat} {a b i x:Nat} (h:UsedOk es n c u) (he:es.getD i (0,0)=((a:Int),(b:Int))) (ha:a<n) (hb:b<n):(u.getD a 0|||u.getD b 0).testBit x=clashB es c i (x:Int):=by
 obtain ⟨_,h2⟩:=h
 rw [Bool.eq_iff_iff,clashB_iff,Nat.testBit_or,Bool.or_eq_true,(h2 a ha).2,(h2 b hb).2]
 have hon:∀ z:Int,on (es.getD i (0,0)) z=true↔(a:Int)=z∨(b:Int)=z:=fun z=>by
  rw [he];unfold on;simp only [Bool.or_eq_true,beq_iff_eq]
 constructor
 ·rintro (⟨j,j1,j2,j3⟩|⟨j,j1,j2,j3⟩)
  ·exact ⟨j,j1,j2,a,j3,(hon a).2 (.inl rfl)⟩
  ·exact ⟨j,j1,j2,b,j3,(hon b).2 (.inr rfl)⟩
 ·rintro ⟨j,j1,j2,z,z1,z2⟩
  rcases (hon z).1 z2 with rfl|rfl
  ·exact .inl ⟨j,j1,j2,z1⟩
  ·exact .inr ⟨j,j1,j2,z1⟩
section
variable {n:Int} {H0:AHeap} {pb cb ub:Nat} {tP:TypeId} {qE fV:Value} {u:List Nat}
theorem give_ok {i x:Nat} (hg:IsG n es) (he:Edges H0 v es) (h0:H0.le G) (hcb:H0.length≤cb) (hub:H0.length≤ub) (hne:cb≠ub) (hp1:pb≠cb) (hp2:pb≠ub) (oP:Own G pb tP [.int .i64 n,v,qE,.slice (some ⟨cb,0,none⟩) es.length (es.length+1),.slice (some ⟨ub,0,none⟩) n.toNat (n.toNat+1),fV])
 (oc:Own G cb 2 (LI c)) (ou:Own G ub 45 (LU u)) (hcl:c.length=es.length) (hul:u.length=n.toNat) (hu64:∀ w,w<n.toNat→u.getD w 0<2^64) (hi:i<es.length) (hx:x<64)
 (k:∀ G',Two cb ub G G'→Own G' cb 2 (LI (c.set i (x:Int)))→Own G' ub 45 (LU (orAt (orAt u (es.getD i (0,0)).1.toNat x) (es.getD i (0,0)).2.toNat x))→K (.tuple ⟨[]⟩) G') :
 AC Tryz.prog T0 101 [.pointer (some ⟨pb,0,none⟩),.int .i64 (i:Nat),.int .i64 (x:Nat)] G K:=by
 obtain ⟨d1,d2,d3,d4,d5⟩:=hg.ed.ends es[i] (List.getElem_mem hi)
 rw [← getD_of (d:=(0,0)) hi] at d1 d2 d3 d4 d5
 have px:2^x<2^64:=Nat.pow_lt_pow_right (by decide) hx
 apply F101.ac
 unfold F101.B7
 refine nilK_mk (asP_mk (ld1_own oP rfl (own_idx (by omega) (by omega) (stK_1 oc (by simp;omega) rfl fun G1 b1 oc1=>?_))))
 rw [Int.toNat_natCast,← List.map_set] at oc1
 have t1:Two cb ub G G1:=.butC b1
 have oP1:=b1.own oP hp1
 have ou1:=b1.own ou (fun e=>hne e.symm)
 unfold F101.B6
 obtain ⟨bb,oo,hk,c1,c2⟩:=(he.le (t1.base h0 hcb hub)).idx (show (0:Int)≤i by omega) (by omega)
 simp only [Int.toNat_natCast] at c1 c2
 refine nilK_mk (asP_mk (ld1_own oP1 rfl (hk _ (ldI_mk c1 (ldI_mk c2 ?_)))))
 unfold F101.L1
 refine ⟨fun x0 x2 x22a x22b x23 G'=>.pointer (some ⟨pb,0,none⟩)=x0∧((x:Nat):Int)=x2∧(es.getD i (0,0)).1=x22a∧(es.getD i (0,0)).2=x22b∧Two cb ub G G'∧Own G' pb tP [.int .i64 n,v,qE,.slice (some ⟨cb,0,none⟩) es.length (es.length+1),.slice (some ⟨ub,0,none⟩) n.toNat (n.toNat+1),fV]∧Own G' cb 2 (LI (c.set i (x:Int)))∧∃ (t:Nat) (u':List Nat),x23=t∧t≤2∧Own G' ub 45 (LU u')∧u'.length=n.toNat∧(∀ w,w<n.toNat→u'.getD w 0<2^64)∧u'=(if t=0 then u else if t=1 then orAt u (es.getD i (0,0)).1.toNat x else orAt (orAt u (es.getD i (0,0)).1.toNat x) (es.getD i (0,0)).2.toNat x),
  fun _ _ _ _ x23 _=>2-x23.toNat,⟨rfl,rfl,rfl,rfl,t1,oP1,oc1,0,u,rfl,by omega,ou1,hul,hu64,rfl⟩,?_⟩
 rintro x0 x2 x22a x22b x23 G2 ⟨rfl,rfl,rfl,rfl,t2,oP2,oc2,t,u',rfl,ht,ou2,hul',hu64',hue⟩
 unfold F101.B5
 refine pif_cases (fun hb=>?_) fun hb=>?_
 ·have ht2:t<2:=by have:=of_decide_eq_true hb;omega
  have hw:∃ w:Nat,([.int .i64 (es.getD i (0,0)).1,.int .i64 (es.getD i (0,0)).2]:List Value)[(t:Int).toNat*1]?=some (.int .i64 (w:Nat))∧w<n.toNat∧(t=0→w=(es.getD i (0,0)).1.toNat)∧(t=1→w=(es.getD i (0,0)).2.toNat):=by
   rcases (by omega:t=0∨t=1) with rfl|rfl
   ·exact ⟨(es.getD i (0,0)).1.toNat,by rw [Int.toNat_of_nonneg d1];rfl,by omega,fun _=>rfl,fun h=>by omega⟩
   ·exact ⟨(es.getD i (0,0)).2.toNat,by rw [Int.toNat_of_nonneg d3];rfl,by omega,fun h=>by omega,fun _=>rfl⟩
  obtain ⟨w,hat,hwn,w0,w1⟩:=hw
  have huw:=hu64' w hwn
  unfold F101.B4
  refine bndK_iff.2 ⟨by omega,by omega,?_⟩
  unfold atK
  rw [hat]
  refine asI_mk ?_
  unfold F101.B3
  refine nilK_mk (asP_mk (ld1_own oP2 rfl (own_idx (by omega) (by omega) (ldI_own ou2 (by rw [Int.toNat_natCast];exact LUget2 (by omega)) ⟨by omega,own_idx (by omega) (by omega) (stK_1 ou2 (by simp;omega) rfl fun G3 b3 o3=>?_)⟩))))
  rw [one_shl (by omega) (by omega),Int.toNat_natCast,Int.toNat_natCast,bits_or huw px,show (Value.int .u64 (((u'.getD w 0|||2^x:Nat)):Int))=(fun z:Nat=>Value.int .u64 (z:Int)) (u'.getD w 0|||2^x) from rfl,← List.map_set] at o3
  unfold F101.B2
  rw [wrap_id (by omega) (by omega)]
  refine ⟨⟨rfl,rfl,rfl,rfl,t2.trans (.butU b3),b3.own oP2 hp2,b3.own oc2 hne,t+1,_,by omega,by omega,o3,by simpa using hul',fun w' hw'=>?_,?_⟩,by simp;omega⟩
  ·by_cases e:w=w'
   ·subst e;rw [getN_set_self (by omega)];exact or_lt huw px
   ·rw [getN_set_ne e];exact hu64' w' hw'
  ·rcases (by omega:t=0∨t=1) with rfl|rfl
   ·rw [if_neg (by omega),if_pos rfl,hue,if_pos rfl,w0 rfl];rfl
   ·rw [if_neg (by omega),if_neg (by omega),hue,if_neg (by omega),if_pos rfl,w1 rfl];rfl
 ·have ht2:t=2:=by have:=of_decide_eq_false hb;omega
  subst ht2
  rw [if_neg (by omega),if_neg (by omega)] at hue
  rw [hue] at ou2
  exact k G2 t2 oc2 ou2
theorem take_ok {i x:Nat} (hg:IsG n es) (he:Edges H0 v es) (h0:H0.le G) (hcb:H0.length≤cb) (hub:H0.length≤ub) (hne:cb≠ub) (hp1:pb≠cb) (hp2:pb≠ub) (oP:Own G pb tP [.int .i64 n,v,qE,.slice (some ⟨cb,0,none⟩) es.length (es.length+1),.slice (some ⟨ub,0,none⟩) n.toNat (n.toNat+1),fV])
 (oc:Own G cb 2 (LI c)) (ou:Own G ub 45 (LU u)) (hcl:c.length=es.length) (hul:u.length=n.toNat) (hu64:∀ w,w<n.toNat→u.getD w 0<2^64) (hi:i<es.length) (hx:x<64) (hcx:c.getD i 0=(x:Int))
 (k:∀ G',Two cb ub G G'→Own G' cb 2 (LI (c.set i (-1)))→Own G' ub 45 (LU (offAtU (offAtU u (es.getD i (0,0)).1.toNat x) (es.getD i (0,0)).2.toNat x))→K (.tuple ⟨[]⟩) G') :
 AC Tryz.prog T0 116 [.pointer (some ⟨pb,0,none⟩),.int .i64 (i:Nat)] G K:=by
 obtain ⟨d1,d2,d3,d4,d5⟩:=hg.ed.ends es[i] (List.getElem_mem hi)
 rw [← getD_of (d:=(0,0)) hi] at d1 d2 d3 d4 d5
 have px:2^x<2^64:=Nat.pow_lt_pow_right (by decide) hx
 have oi:=own_ints (c:=es.length+1) oc
 rw [hcl] at oi
 apply F116.ac
 unfold F116.B7
 obtain ⟨bb,oo,hk,c1,c2⟩:=(he.le h0).idx (show (0:Int)≤i by omega) (by omega)
 simp only [Int.toNat_natCast] at c1 c2
 refine nilK_mk (asP_mk (ld1_own oP rfl (hk _ (ldI_mk c1 (ldI_mk c2 ?_)))))
 unfold F116.L2
 refine ⟨fun x0 x1 x13a x13b x14 G'=>.pointer (some ⟨pb,0,none⟩)=x0∧((i:Nat):Int)=x1∧(es.getD i (0,0)).1=x13a∧(es.getD i (0,0)).2=x13b∧Two cb ub G G'∧Own G' pb tP [.int .i64 n,v,qE,.slice (some ⟨cb,0,none⟩) es.length (es.length+1),.slice (some ⟨ub,0,none⟩) n.toNat (n.toNat+1),fV]∧Own G' cb 2 (LI c)∧∃ (t:Nat) (u':List Nat),x14=t∧t≤2∧Own G' ub 45 (LU u')∧u'.length=n.toNat∧(∀ w,w<n.toNat→u'.getD w 0<2^64)∧u'=(if t=0 then u else if t=1 then offAtU u (es.getD i (0,0)).1.toNat x else offAtU (offAtU u (es.getD i (0,0)).1.toNat x) (es.getD i (0,0)).2.toNat x),
  fun _ _ _ _ x14 _=>2-x14.toNat,⟨rfl,rfl,rfl,rfl,.le (AHeap.le_refl _),oP,oc,0,u,rfl,by omega,ou,hul,hu64,rfl⟩,?_⟩
 clear oi
 rintro x0 x1 x13a x13b x14 G2 ⟨rfl,rfl,rfl,rfl,t2,oP2,oc2,t,u',rfl,ht,ou2,hul',hu64',hue⟩
 have oi:=own_ints (c:=es.length+1) oc2
 rw [hcl] at oi
 unfold F116.B6
 refine pif_cases (fun hb=>?_) fun hb=>?_
 ·have ht2:t<2:=by have:=of_decide_eq_true hb;omega
  have hw:∃ w:Nat,([.int .i64 (es.getD i (0,0)).1,.int .i64 (es.getD i (0,0)).2]:List Value)[(t:Int).toNat*1]?=some (.int .i64 (w:Nat))∧w<n.toNat∧(t=0→w=(es.getD i (0,0)).1.toNat)∧(t=1→w=(es.getD i (0,0)).2.toNat):=by
   rcases (by omega:t=0∨t=1) with rfl|rfl
   ·exact ⟨(es.getD i (0,0)).1.toNat,by rw [Int.toNat_of_nonneg d1];rfl,by omega,fun _=>rfl,fun h=>by omega⟩
   ·exact ⟨(es.getD i (0,0)).2.toNat,by rw [Int.toNat_of_nonneg d3];rfl,by omega,fun h=>by omega,fun _=>rfl⟩
  obtain ⟨w,hat,hwn,w0,w1⟩:=hw
  have huw:=hu64' w hwn
  unfold F116.B5
  refine bndK_iff.2 ⟨by omega,by omega,?_⟩
  unfold atK
  rw [hat]
  refine asI_mk ?_
  unfold F116.B4
  refine nilK_mk (asP_mk (ld1_own oP2 rfl (own_idx (by omega) (by omega) (ldI_own ou2 (by rw [Int.toNat_natCast];exact LUget2 (by omega)) (nilK_mk (asP_mk (ld1_own oP2 rfl (oi.rd (by omega) (by omega) ?_))))))))
  rw [Int.toNat_natCast,hcx]
  refine ⟨by omega,own_idx (by omega) (by omega) (stK_1 ou2 (by simp;omega) rfl fun G3 b3 o3=>?_)⟩
  have band:IntKind.u64.wrap ((BitVec.ofInt 64 ((u'.getD w 0:Nat):Int)&&&~~~(BitVec.ofInt 64 ((2^x:Nat):Int))).toNat:Int)=((u'.getD w 0&&&(2^64-(2^x+1)):Nat):Int):=by
   have hs':u'.getD w 0&&&(2^64-(2^x+1))<2^64:=Nat.lt_of_le_of_lt Nat.and_le_left huw
   rw [bv_nat,bv_nat,BitVec.toNat_and,BitVec.toNat_not,BitVec.toNat_ofNat,BitVec.toNat_ofNat,Nat.mod_eq_of_lt huw,Nat.mod_eq_of_lt px,show 2^64-1-2^x=2^64-(2^x+1) by omega,u64_nat hs']
  rw [one_shl (by omega) (by omega),Int.toNat_natCast,Int.toNat_natCast,band,show (Value.int .u64 (((u'.getD w 0&&&(2^64-(2^x+1)):Nat)):Int))=(fun z:Nat=>Value.int .u64 (z:Int)) (u'.getD w 0&&&(2^64-(2^x+1))) from rfl,← List.map_set] at o3
  unfold F116.B3
  rw [wrap_id (by omega) (by omega)]
  refine ⟨⟨rfl,rfl,rfl,rfl,t2.trans (.butU b3),b3.own oP2 hp2,b3.own oc2 hne,t+1,_,by omega,by omega,o3,by simpa using hul',fun w' hw'=>?_,?_⟩,by simp;omega⟩
  ·by_cases e:w=w'
   ·subst e;rw [getN_set_self (by omega)];exact Nat.lt_of_le_of_lt Nat.and_le_left huw
   ·rw [getN_set_ne e];exact hu64' w' hw'
  ·rcases (by omega:t=0∨t=1) with rfl|rfl
   ·rw [if_neg (by omega),if_pos rfl,hue,if_pos rfl,w0 rfl];rfl
   ·rw [if_neg (by omega),if_neg (by omega),hue,if_neg (by omega),if_pos rfl,w1 rfl];rfl
 ·have ht2:t=2:=by have:=of_decide_eq_false hb;omega
  subst ht2
  rw [if_neg (by omega),if_neg (by omega)] at hue
  rw [hue] at ou2
  unfold F116.B1
  refine nilK_mk (asP_mk (ld1_own oP2 rfl (own_idx (by omega) (by omega) (stK_1 oc2 (by simp;omega) rfl fun G3 b3 o3=>?_))))
  rw [Int.toNat_natCast,← List.map_set] at o3
  exact k G3 (t2.trans (.butC b3)) o3 (b3.own ou2 (fun e=>hne e.symm))
end
end Go.Proofs
namespace Go.Proofs
open Go.Abs

variable {H G:AHeap} {v u f:Value} {l m c D:List Int} {es fs:List (Int × Int)} {K:Value→AHeap→Prop}

noncomputable def ptL (es:List (Int × Int)):List Int→List Int→List (List Int)
 | [],c=>[c]
 | i::E,c=>if c.getD i.toNat 0=-1 then (List.range 3).flatMap fun x:Nat=>if clashB es c i.toNat (x:Int) then [] else ptL es E (c.set i.toNat (x:Int)) else ptL es E c
noncomputable def ptTo (es:List (Int × Int)) (E:List Int) (i:Nat) (c:List Int) (t:Nat):List (List Int):=(List.range t).flatMap fun x:Nat=>if clashB es c i (x:Int) then [] else ptL es E (c.set i (x:Int))
theorem ptL_cons {i:Nat} {E c:List Int} (h:c.getD i 0=-1):ptL es ((i:Int)::E) c=ptTo es E i c 3:=by
 rw [ptL,Int.toNat_natCast,if_pos h];rfl
theorem ptL_skip {i:Nat} {E c:List Int} (h:c.getD i 0≠-1):ptL es ((i:Int)::E) c=ptL es E c:=by
 rw [ptL,Int.toNat_natCast,if_neg h]
theorem ptTo_succ {E:List Int} {i:Nat} {c:List Int} (t:Nat):ptTo es E i c (t+1)=ptTo es E i c t++if clashB es c i (t:Int) then [] else ptL es E (c.set i (t:Int)):=by
 unfold ptTo
 rw [List.range_succ,List.flatMap_append]
 simp
theorem ptTo_le {E:List Int} {i:Nat} {c:List Int} {t s:Nat} (h:t≤s):(ptTo es E i c t).length≤(ptTo es E i c s).length:=by
 obtain ⟨d,rfl⟩:∃ d,s=t+d:=⟨s-t,by omega⟩
 clear h
 induction d with
 | zero=>exact Nat.le_refl _
 | succ d ih=>
  rw [← Nat.add_assoc,ptTo_succ,List.length_append];omega
structure Fnd (X:Nat→Prop) (G G':AHeap):Prop where
 len:G.length≤G'.length
 old:∀ (b:Nat) (o:AObj),¬ X b→G[b]?=some (some o)→G'[b]?=some (some o)
theorem Fnd.refl {X:Nat→Prop}:Fnd X G G:=⟨Nat.le_refl _,fun _ _ _ h=>h⟩
theorem Fnd.le {X:Nat→Prop} {G':AHeap} (h:G.le G'):Fnd X G G':=⟨h.1,fun b o _ ho=>h.2 b o ho⟩
theorem Fnd.trans {X:Nat→Prop} {G' G2:AHeap} (h:Fnd X G G') (k:Fnd X G' G2):Fnd X G G2:=⟨Nat.le_trans h.len k.len,fun b o hb ho=>k.old b o hb (h.old b o hb ho)⟩
theorem Fnd.own {X:Nat→Prop} {G':AHeap} {b:Nat} {t:TypeId} {cs:List Value} (h:Fnd X G G') (o:Own G b t cs) (hb:¬ X b):Own G' b t cs:=h.old b _ hb o
theorem Fnd.base {X:Nat→Prop} {H0 G':AHeap} (h:Fnd X G G') (h0:H0.le G) (hX:∀ (b:Nat) (o:AObj),H0[b]?=some (some o)→¬ X b):H0.le G':=⟨Nat.le_trans h0.1 h.len,fun b o ho=>h.old b o (hX b o ho) (h0.2 b o ho)⟩
theorem Two.fnd {X:Nat→Prop} {cb ub:Nat} {G G4 G5 G6:AHeap} {tc tu:TypeId} {xs ys:List Value} (h1:Two cb ub G G4) (h2:Fnd X G4 G5) (h3:Two cb ub G5 G6) (c1:Own G cb tc xs) (c2:Own G6 cb tc xs) (u1:Own G ub tu ys) (u2:Own G6 ub tu ys):Fnd X G G6:=by
 refine ⟨Nat.le_trans h1.len (Nat.le_trans h2.len h3.len),fun b o hX ho=>?_⟩
 by_cases e1:b=cb
 ·subst e1
  have:=c1.symm.trans ho
  rw [← Option.some.inj (Option.some.inj this)];exact c2
 ·by_cases e2:b=ub
  ·subst e2
   have:=u1.symm.trans ho
   rw [← Option.some.inj (Option.some.inj this)];exact u2
  ·exact h3.old b o e1 e2 (h2.old b o hX (h1.old b o e1 e2 ho))
section
variable {n:Int} {H0:AHeap} {pb cb ub:Nat} {tP:TypeId} {qE fV:Value} {X:Nat→Prop} {J:List (List Int)→AHeap→Prop} {q:List Int→Bool} {N Bd:Nat}
structure Caller (es:List (Int × Int)) (H0:AHeap) (pb cb ub:Nat) (fV:Value) (X:Nat→Prop) (Bd:Nat) (J:List (List Int)→AHeap→Prop) (q:List Int→Bool) (N:Nat):Prop where
 x0:∀ (b:Nat) (o:AObj),H0[b]?=some (some o)→¬ X b
 xp:¬ X pb
 xc:¬ X cb
 xu:¬ X ub
 xb:∀ b,X b→b<Bd
 st:∀ done (G G':AHeap),J done G→Two cb ub G G'→J done G'
 call:∀ done c' (G:AHeap),H0.le G→Own G cb 2 (LI c')→c'.length=es.length→J done G→done.length<N→∀ K:Value→AHeap→Prop,(∀ G',Fnd X G G'→J (done++[c']) G'→K (.bool (q c')) G')→callV Tryz.prog T0 fV [.slice (some ⟨cb,0,none⟩) es.length (es.length+1)] G K
theorem paintG_ok {E:List Int} (hC:Caller es H0 pb cb ub fV X Bd J q N) (hg:IsG n es) (he:Edges H0 v es) (hE:Ints H0 qE E) (hEl:E.length≤1000) (hEr:∀ x∈E,0≤x∧x<es.length) (hcb:H0.length≤cb) (hub:H0.length≤ub) (hne:cb≠ub) (hp1:pb≠cb) (hp2:pb≠ub) :
    ∀ (r k:Nat) (c:List Int) (u:List Nat) (done:List (List Int)) (G:AHeap) (K:Value→AHeap→Prop),E.length≤k+r→k≤E.length→H0.le G→Bd≤G.length→Own G pb tP [.int .i64 n,v,qE,.slice (some ⟨cb,0,none⟩) es.length (es.length+1),.slice (some ⟨ub,0,none⟩) n.toNat (n.toNat+1),fV]→
      Own G cb 2 (LI c)→Own G ub 45 (LU u)→c.length=es.length→UsedOk es n.toNat c u→J done G→done.length+(ptL es (E.drop k) c).length≤N→(∀ G',Fnd X G G'→J (done++upTo q (ptL es (E.drop k) c)) G'→K (.bool ((ptL es (E.drop k) c).any q)) G')→
      AC Tryz.prog T0 102 [.pointer (some ⟨pb,0,none⟩),.int .i64 (k:Nat)] G K:=by
  have n0:=hg.ed.lo;have n1:=hg.ed.hi
  have h30:es.length≤30:=by have:=hg.ed.len;omega
  intro r
  induction r with
  | zero|succ r ih=>
    intro k0 c u done G K hkr hk0 h0 hBd oP oc ou hcl hU hJ hN kk
    have hEG:=hE.le h0
    have oi:=own_ints (c:=es.length+1) oc
    rw [hcl] at oi
    apply F102.ac
    unfold F102.B20 F102.L17
    refine ⟨fun x0 x1 G'=>.pointer (some ⟨pb,0,none⟩)=x0∧G=G'∧∃ k:Nat,x1=k∧k0≤k∧k≤E.length∧ptL es (E.drop k0) c=ptL es (E.drop k) c,fun _ x1 _=>E.length-x1.toNat,⟨rfl,rfl,k0,rfl,Nat.le_refl _,hk0,rfl⟩,?_⟩
    rintro x0 x1 G' ⟨rfl,rfl,k,rfl,hkk,hkE,hsame⟩
    rw [hsame] at hN kk
    have leaf:k=E.length→F102.B15 K (.pointer (some ⟨pb,0,none⟩)) G:=fun hk=>by
      unfold F102.B15
      rw [hk,List.drop_length] at hN kk
      have hN:done.length+1≤N:=hN
      refine nilK_mk (asP_mk (ld1_own oP rfl (nilK_mk (asP_mk (ld1_own oP rfl (hC.call done c G h0 oc hcl hJ (by omega) _ fun G' hG' hJ'=>asB_mk ?_))))))
      have kk:=kk G' hG'
      have e:[c].any q=q c:=by simp
      rw [show ptL es [] c=[c] from rfl,e] at kk
      refine kk ?_
      have e2:upTo q [c]=[c]:=by unfold upTo;cases q c <;> rfl
      rw [e2];exact hJ'
    unfold F102.B19
    refine nilK_mk (asP_mk (ld1_own oP rfl (hEG.len (pif_cases (fun hb=>?_) fun hb=>?_))))
    rotate_left
    · have hk:k=E.length:=by have:=of_decide_eq_false hb;omega
      unfold F102.B16
      exact nilK_mk (asP_mk (ld1_own oP rfl (hEG.len (pif_t (by rw [beq_iff_eq];omega) (leaf hk)))))
    have hk:k<E.length:=by have:=of_decide_eq_true hb;omega
    have hi:=hEr _ (List.getElem_mem hk)
    obtain ⟨i,hie⟩:∃ i:Nat,E[k]=(i:Int):=⟨(E[k]).toNat,by omega⟩
    have hget:E.getD k 0=(i:Int):=by rw [getD_of hk,hie]
    rw [hie] at hi
    have hil:i<es.length:=by omega
    have hdrop:E.drop k=(i:Int)::E.drop (k+1):=by rw [List.drop_eq_getElem_cons hk,hie]
    refine nilK_mk (asP_mk (ld1_own oP rfl (nilK_mk (asP_mk (ld1_own oP rfl (hEG.rd (by omega) (by omega) ?_))))))
    rw [Int.toNat_natCast,hget]
    refine oi.rd (by omega) (by omega) ?_
    rw [Int.toNat_natCast]
    refine pif_cases (fun hb=>?_) fun hb=>?_
    · have hci:=bne_iff_ne.1 hb
      unfold F102.B18
      rw [wrap_id (by omega) (by omega)]
      refine ⟨⟨rfl,rfl,k+1,by omega,by omega,by omega,?_⟩,by simp;omega⟩
      rw [hsame,hdrop,ptL_skip hci]
    have hci:c.getD i 0=-1:=bne_eq_false_iff_eq.1 hb
    unfold F102.B16
    refine nilK_mk (asP_mk (ld1_own oP rfl (hEG.len (pif_f (by rw [beq_eq_false_iff_ne];omega) ?_))))
    unfold F102.B14
    refine nilK_mk (asP_mk (ld1_own oP rfl (hEG.rd (by omega) (by omega) ?_)))
    rw [Int.toNat_natCast,hget]
    obtain ⟨d1,d2,d3,d4,d5⟩:=hg.ed.ends es[i] (List.getElem_mem hil)
    rw [← getD_of (d:=(0,0)) hil] at d1 d2 d3 d4 d5
    obtain ⟨a,ha⟩:∃ a:Nat,(es.getD i (0,0)).1=a:=⟨(es.getD i (0,0)).1.toNat,by omega⟩
    obtain ⟨b,hb'⟩:∃ b:Nat,(es.getD i (0,0)).2=b:=⟨(es.getD i (0,0)).2.toNat,by omega⟩
    have hab:es.getD i (0,0)=((a:Int),(b:Int)):=by rw [← ha,← hb']
    rw [hdrop,ptL_cons hci] at hN kk
    unfold F102.B13
    obtain ⟨bb,oo,hk',c1,c2⟩:=(he.le h0).idx (show (0:Int)≤i by omega) (by omega)
    simp only [Int.toNat_natCast] at c1 c2
    refine nilK_mk (asP_mk (ld1_own oP rfl (hk' _ (ldI_mk c1 (ldI_mk c2 (newK_f rfl fun G1 l1 n1' o1=>stK_f o1 (by simp) (by simp [Value.oneCell']) rfl fun G2 b2 o2=>?_))))))
    have l2:G.le G2:=b2.le l1 (Nat.le_refl _)
    have o2:Own G2 G.length 84 [.int .i64 (a:Nat),.int .i64 (b:Nat)]:=by rw [ha,hb'] at o2;simpa using o2
    have hul:=hU.1
    have hcl0:=oc.lt
    have hul0:=ou.lt
    have xG:¬ X G.length:=fun h=>by have:=hC.xb _ h;omega
    unfold F102.B12 F102.L2
    refine ⟨fun x0 x1 x5 x6 x65 G'=>.pointer (some ⟨pb,0,none⟩)=x0∧((k:Nat):Int)=x1∧((i:Nat):Int)=x5∧G.length=x6∧Fnd X G2 G'∧∃ t:Nat,x65=t∧t≤3∧J (done++ptTo es (E.drop (k+1)) i c t) G'∧(ptTo es (E.drop (k+1)) i c t).any q=false,fun _ _ _ _ x65 _=>3-x65.toNat,
      ⟨rfl,rfl,rfl,rfl,.refl,0,rfl,by omega,by rw [show ptTo es (E.drop (k+1)) i c 0=[] from rfl,List.append_nil];exact hC.st _ _ _ hJ (.le l2),rfl⟩,?_⟩
    rintro x0 x1 x5 x6 x65 G3 ⟨rfl,rfl,rfl,rfl,hG3,t,rfl,ht,hJ3,hno⟩
    have fG3:=(Fnd.le (X:=X) l2).trans hG3
    have h03:=fG3.base h0 hC.x0
    have oP3:=fG3.own oP hC.xp
    have oc3:=fG3.own oc hC.xc
    have ou3:=fG3.own ou hC.xu
    have o23:=hG3.own o2 xG
    have hG3l:=fG3.len
    unfold F102.B11
    refine pif_cases (fun hb=>?_) fun hb=>?_
    · have ht3:t<3:=by have:=of_decide_eq_true hb;omega
      have hua:=(hU.2 a (by omega)).1
      have hub':=(hU.2 b (by omega)).1
      have hsucc:=ptTo_succ (es:=es) (E:=E.drop (k+1)) (i:=i) (c:=c) t
      have hle3:=ptTo_le (es:=es) (E:=E.drop (k+1)) (i:=i) (c:=c) (t:=t+1) (s:=3) (by omega)
      unfold F102.B10 F102.B9
      refine nilK_mk (asP_mk (ld1_own oP3 rfl (ldI_own o23 rfl (own_idx (by omega) (by omega) (ldI_own ou3 (by rw [Int.toNat_natCast];exact LUget2 (by omega)) (nilK_mk (asP_mk (ld1_own oP3 rfl (ldI_own o23 rfl (own_idx (by omega) (by omega) (ldI_own ou3 (by rw [Int.toNat_natCast];exact LUget2 (by omega)) ?_)))))))))))
      rw [bits_or hua hub']
      refine has_ok (or_lt hua hub') (by omega) (asB_mk ?_)
      rw [Int.toNat_natCast,used_clash hU hab (by omega) (by omega)]
      refine pif_cases (fun hb=>?_) fun hb=>?_
      · unfold F102.B3
        rw [wrap_id (by omega) (by omega)]
        rw [hb,if_pos rfl,List.append_nil] at hsucc
        exact ⟨⟨rfl,rfl,rfl,rfl,hG3,t+1,by omega,by omega,by rw [hsucc];exact hJ3,by rw [hsucc];exact hno⟩,by simp;omega⟩
      · have hcl2:=hb
        rw [hb] at hsucc
        simp only [Bool.false_eq_true,if_false] at hsucc
        unfold F102.B8
        refine give_ok (x:=t) hg he h03 hcb hub hne hp1 hp2 oP3 oc3 ou3 hcl hul (fun w hw=>(hU.2 w hw).1) hil (by omega) fun G4 t4 oc4 ou4=>asTup_mk ?_
        rw [ha,hb',Int.toNat_natCast,Int.toNat_natCast] at ou4
        have hU4:=hU.give (x:=t) (by omega) hci hab (by omega) (by omega) (by omega) (by omega)
        have h04:=t4.base h03 hcb hub
        have oP4:Own G4 pb tP _:=t4.old pb _ hp1 hp2 oP3
        have hJ4:=hC.st _ _ _ hJ3 t4
        have hl4:=t4.len
        unfold F102.B7
        rw [wrap_id (by omega) (by omega),show ((k:Nat):Int)+1=((k+1:Nat):Int) by omega]
        first
        | (exfalso;omega)
        | (refine ih (k + 1) (c.set i (t : Int)) _ _ G4 _ (by omega) (by omega) h04 (by omega) oP4 oc4 ou4 (by simpa using hcl) hU4 hJ4 (by
             rw [hsucc,List.length_append] at hle3
             rw [List.length_append];omega) fun G5 f5 hJ5=>asB_mk ?_
           have oP5:=f5.own oP4 hC.xp
           have oc5:=f5.own oc4 hC.xc
           have ou5:=f5.own ou4 hC.xu
           have h05:=f5.base h04 hC.x0
           unfold F102.B6
           refine take_ok (x:=t) hg he h05 hcb hub hne hp1 hp2 oP5 oc5 ou5 (by simpa using hcl) hU4.1 (fun w hw=>(hU4.2 w hw).1) hil (by omega) (getD_set_self (by omega)) fun G6 t6 oc6 ou6=>asTup_mk ?_
           have hback:(c.set i (t:Int)).set i (-1)=c:=by
             rw [List.set_set,← hci,getD_of (by omega:i<c.length)];exact List.set_getElem_self _
           rw [hback] at oc6
           have hbit:=used_clash (x:=t) hU hab (by omega) (by omega)
           rw [hcl2,Nat.testBit_or,Bool.or_eq_false_iff] at hbit
           rw [ha,hb',Int.toNat_natCast,Int.toNat_natCast,give_take (by omega) (by omega) (by omega) (by omega) hua hub' hbit.1 hbit.2] at ou6
           have f36:Fnd X G3 G6:=Two.fnd t4 f5 t6 oc3 oc6 ou3 ou6
           have hJ6:=hC.st _ _ _ hJ5 t6
           rw [List.append_assoc] at hJ6
           unfold F102.B5
           refine pif_cases (fun hb=>?_) fun hb=>?_
           · unfold F102.B4
             have kk:=kk G6 (fG3.trans f36)
             have e3:ptTo es (E.drop (k+1)) i c 3=ptTo es (E.drop (k+1)) i c t++(ptL es (E.drop (k+1)) (c.set i (t:Int))++(ptTo es (E.drop (k+1)) i c 3).drop (ptTo es (E.drop (k+1)) i c (t+1)).length):=by
               rw [← List.append_assoc,← hsucc]
               have pre:∀ s,t+1≤s→∃ R,ptTo es (E.drop (k+1)) i c s=ptTo es (E.drop (k+1)) i c (t+1)++R:=by
                 intro s hs
                 induction s with
                 | zero=>omega
                 | succ s ihs=>
                   by_cases es':s=t
                   · subst es';exact ⟨[],by simp⟩
                   · obtain ⟨R,hR⟩:=ihs (by omega)
                     exact ⟨_,by rw [ptTo_succ,hR,List.append_assoc]⟩
               obtain ⟨R,hR⟩:=pre 3 (by omega)
               rw [hR,List.drop_left]
             have hany:(ptTo es (E.drop (k+1)) i c 3).any q=true:=by
               rw [e3,List.any_append,List.any_append,hb];simp
             have hup:upTo q (ptTo es (E.drop (k+1)) i c 3)=ptTo es (E.drop (k+1)) i c t++upTo q (ptL es (E.drop (k+1)) (c.set i (t:Int))):=by
               rw [e3,upTo_app hno,upTo_stop hb]
             rw [hany,hup] at kk
             exact kk hJ6
           · rw [upTo_all hb] at hJ6
             unfold F102.B3
             rw [wrap_id (by omega) (by omega)]
             exact ⟨⟨rfl,rfl,rfl,rfl,hG3.trans f36,t+1,by omega,by omega,by rw [hsucc];exact hJ6,by rw [hsucc,List.any_append,hno,hb];rfl⟩,by simp;omega⟩)
    · have ht3:t=3:=by have:=of_decide_eq_false hb;omega
      subst ht3
      unfold F102.B1
      have kk:=kk G3 fG3
      rw [hno,upTo_all hno] at kk
      exact kk hJ3
end
end Go.Proofs
namespace Go.Proofs
open Go.Abs

section
variable {es:List (Int × Int)} {p:Nat→Bool} {n:Int} {l:List Int}
end
end Go.Proofs
namespace Go.Proofs
open Go.Abs

variable {l m c:List Int} {es fs:List (Int × Int)} {ls L:List (List Int)} {n:Int}

end Go.Proofs
namespace Go.Proofs
open Go.Abs

variable {l m c:List Int} {es fs:List (Int × Int)} {ls L:List (List Int)} {n:Int}

theorem mem_ptL {c:List Int} (hcl:c.length=es.length):∀ (E d:List Int),d.length=es.length→E.Nodup→(∀ i∈E,0≤i∧i<es.length∧d.getD i.toNat 0=-1∧0≤c.getD i.toNat 0∧c.getD i.toNat 0≤2)→(∀ j:Nat,j<es.length→(j:Int)∉E→d.getD j 0=c.getD j 0)→
 (∀ i j:Nat,i<es.length→j<es.length→i≠j→share (es.getD i (0,0)) (es.getD j (0,0))→0≤c.getD i 0→c.getD i 0≠c.getD j 0)→c∈ptL es E d
 | [],d,hd,_,_,ho,_=>by
  rw [ptL,List.mem_singleton]
  exact List.ext_getElem (by omega) fun i h1 h2=>by
   have:=ho i (by omega) (by simp)
   rw [getD_of h2,getD_of h1] at this
   exact this.symm
 | i::E,d,hd,hn,hE,ho,hs=>by
  obtain ⟨h1,h2,h3,h4,h5⟩:=hE i (by simp)
  obtain ⟨j,rfl⟩:∃ j:Nat,i=j:=⟨i.toNat,by omega⟩
  rw [Int.toNat_natCast] at h3 h4 h5
  rw [List.nodup_cons] at hn
  rw [ptL_cons h3]
  obtain ⟨x,hx⟩:∃ x:Nat,c.getD j 0=x:=⟨(c.getD j 0).toNat,by omega⟩
  unfold ptTo
  rw [List.mem_flatMap]
  refine ⟨x,List.mem_range.2 (by omega),?_⟩
  have hcl':clashB es d j (x:Int)=false:=by
   cases hb:clashB es d j (x:Int) with
   | false=>rfl
   | true=>
    obtain ⟨q,q1,q2,q3⟩:=clashB_iff.1 hb
    have hqj:q≠j:=fun e=>by subst e;omega
    have hqE:(q:Int)∉((j:Int)::E):=fun hm=>by
     have:=(hE (q:Int) hm).2.2.1
     rw [Int.toNat_natCast] at this;omega
    have hqc:=ho q (by omega) hqE
    have:=hs j q (by omega) (by omega) (fun e=>hqj e.symm) (share_symm q3) h4
    omega
  rw [hcl']
  simp only [Bool.false_eq_true,if_false]
  refine mem_ptL hcl E (d.set j (x:Int)) (by simpa using hd) hn.2 (fun i hi=>?_) (fun q hq hqE=>?_) hs
  ·obtain ⟨g1,g2,g3,g4,g5⟩:=hE i (by simp [hi])
   refine ⟨g1,g2,?_,g4,g5⟩
   have:j≠i.toNat:=fun e=>by
    have:i=(j:Int):=by omega
    subst this;exact hn.1 hi
   rw [getD_set_ne this];exact g3
  ·by_cases e:j=q
   ·subst e;rw [getD_set_self (by omega)];exact hx.symm
   ·rw [getD_set_ne e]
    refine ho q hq fun hm=>?_
    rcases List.mem_cons.1 hm with h|h
    ·omega
    ·exact hqE h
noncomputable def partB (es:List (Int × Int)) (v i:Nat):Bool:=rchB (vAdj es) v (es.getD i (0,0)).1.toNat
noncomputable def partE (es:List (Int × Int)) (v:Nat):List Int:=filtB (partB es v) es.length
noncomputable def partL (es:List (Int × Int)) (n:Nat):List (List Int):=(leadL es n).map (partE es)
noncomputable def blank (es:List (Int × Int)):List Int:=List.replicate es.length (-1)
theorem partL_length (n:Nat):(partL es n).length=(sidesL es n).length:=by
 unfold partL;rw [List.length_map,leadL_length]
theorem partL_get {n k:Nat} (h:k<(leadL es n).length):(partL es n).getD k []=partE es (leadL es n)[k]:=by
 unfold partL
 rw [getD_of (by rw [List.length_map];exact h),List.getElem_map]
theorem partE_nodup (v:Nat):(partE es v).Nodup:=filtB_nodup _ _
theorem partE_rng {v:Nat} {x:Int} (h:x∈partE es v):0≤x∧x<es.length:=by
 obtain ⟨j,rfl,hj,_⟩:=mem_filtB.1 h;omega
def restr (E c:List Int):List Int:=(List.range c.length).map fun j:Nat=>if (j:Int)∈E then c.getD j 0 else -1
theorem restr_get (E c:List Int) {j:Nat} (h:j<c.length):(restr E c).getD j 0=if (j:Int)∈E then c.getD j 0 else -1:=by
 unfold restr;rw [getD_of (by simpa using h)];simp
theorem restr_mem (hc:IsC es c) {v:Nat}:restr (partE es v) c∈ptL es (partE es v) (blank es):=by
 have hl:(restr (partE es v) c).length=es.length:=by unfold restr;rw [List.length_map,List.length_range,hc.len]
 have hcl:=hc.len
 refine mem_ptL hl _ _ (by unfold blank;simp) (partE_nodup v) (fun i hi=>?_) (fun j hj hn=>?_) (fun i j hi hj hij hs h0=>?_)
 ·obtain ⟨r1,r2⟩:=partE_rng hi
  obtain ⟨q,rfl⟩:∃ q:Nat,i=q:=⟨i.toNat,by omega⟩
  rw [Int.toNat_natCast,restr_get _ _ (by omega),if_pos hi]
  have:=hc.get q
  refine ⟨r1,r2,?_,this.1,this.2⟩
  unfold blank
  simp [List.getD,show q<es.length by omega]
 ·rw [restr_get _ _ (by omega),if_neg hn]
  unfold blank
  simp [List.getD,hj]
 ·rw [restr_get _ _ (by omega)] at h0 ⊢
  rw [restr_get _ _ (by omega)]
  have hr:=hc.get j
  have hi':=hc.get i
  have hne:c.getD i 0≠c.getD j 0:=by
   rcases Nat.lt_or_gt_of_ne hij with h|h
   ·exact hc.col j hj i h hs
   ·exact fun e=>hc.col i hi j h (share_symm hs) e.symm
  split at h0
  ·rw [if_pos (by assumption)]
   split
   ·exact hne
   ·omega
  ·omega
end Go.Proofs
namespace Go.Proofs
open Go.Abs

variable {H G:AHeap} {v u f:Value} {l m c D:List Int} {es fs:List (Int × Int)} {K:Value→AHeap→Prop}

theorem usedG_none {N m:Nat}:UsedOk es N (List.replicate m (-1)) (List.replicate N 0):=by
 refine ⟨by simp,fun w hw=>?_⟩
 have e:(List.replicate N 0).getD w 0=0:=by simp [List.getD,hw]
 rw [e]
 refine ⟨by decide,fun k=>?_⟩
 simp only [Nat.zero_testBit,Bool.false_eq_true,false_iff]
 rintro ⟨j,h1,h2,_⟩
 rw [List.length_replicate] at h1
 have:(List.replicate m (-1:Int)).getD j 0=-1:=by simp [List.getD,h1]
 omega
theorem repG_get {m i:Nat} (h:i<m):(List.replicate m (-1:Int)).getD i 0=-1:=by simp [List.getD,h]
section
variable {n:Int} {H0:AHeap} {pb cb ub:Nat} {tP:TypeId} {qE fV:Value} {X:Nat→Prop} {J:List (List Int)→AHeap→Prop} {q:List Int→Bool} {N Bd:Nat}
theorem startG_ok {E:List Int} {done:List (List Int)} (hC:Caller es H0 pb cb ub fV X Bd J q N) (hg:IsG n es) (he:Edges H0 v es) (hE:Ints H0 qE E) (hEl:E.length≤1000) (hEr:∀ x∈E,0≤x∧x<es.length) (hcb:H0.length≤cb) (hub:H0.length≤ub) (hne:cb≠ub) (hp1:pb≠cb) (hp2:pb≠ub) (h0:H0.le G) (hBd:Bd≤G.length)
 (oP:Own G pb tP [.int .i64 n,v,qE,.slice (some ⟨cb,0,none⟩) es.length (es.length+1),.slice (some ⟨ub,0,none⟩) n.toNat (n.toNat+1),fV])
 (oc:Own G cb 2 (LI (blank es))) (ou:Own G ub 45 (LU (List.replicate n.toNat 0))) (hJ:J done G) (hN:done.length+(ptL es E (blank es)).length≤N)
 (k:∀ G',Fnd X G G'→J (done++upTo q (ptL es E (blank es))) G'→K (.bool ((ptL es E (blank es)).any q)) G') :
 AC Tryz.prog T0 75 [.pointer (some ⟨pb,0,none⟩)] G K:=by
 have n0:=hg.ed.lo;have n1:=hg.ed.hi
 have h30:es.length≤30:=by have:=hg.ed.len;omega
 have hbl:(blank es).length=es.length:=by unfold blank;simp
 apply F75.ac
 unfold F75.B17 F75.B16
 refine nilK_mk (asP_mk (ldI_own oP rfl ?_))
 unfold F75.L2
 refine ⟨fun x0 x11 x12 G'=>.pointer (some ⟨pb,0,none⟩)=x0∧n=x11∧G.le G'∧∃ i:Nat,x12=i∧i≤n.toNat,fun _ _ x12 _=>n.toNat-x12.toNat,⟨rfl,rfl,AHeap.le_refl _,0,rfl,by omega⟩,?_⟩
 rintro x0 x11 x12 G1 ⟨rfl,rfl,l1,i,rfl,hi⟩
 unfold F75.B15
 have oP1:=oP.le l1
 refine pif_cases (fun hb=>?_) fun hb=>?_
 ·have hin:i<n.toNat:=by have:=of_decide_eq_true hb;omega
  unfold F75.B14 F75.B13 F75.B12
  refine nilK_mk (asP_mk (ldI_own oP1 rfl (ld1_own oP1 rfl (at_ok (he.le (AHeap.le_trans h0 l1)) (by omega) fun w G2 l2 hW=>?_))))
  have h3:=hg.three (v:=(i:Int)) (by omega) (by omega)
  refine hW.len (by decide) (n:=3) (by rw [List.length_map,h3]) ?_
  unfold F75.L4
  refine ⟨fun x0 x4 x11 x12 x20 x21 x22 G'=>.pointer (some ⟨pb,0,none⟩)=x0∧n=x11∧((i:Nat):Int)=x12∧w=x20∧((3:Nat):Int)=x21∧G2=G'∧∃ t:Nat,x22=t∧t≤3,fun _ _ _ _ _ _ x22 _=>3-x22.toNat,⟨rfl,rfl,rfl,rfl,rfl,rfl,0,rfl,by omega⟩,?_⟩
  rintro x0 x4 x11 x12 x20 x21 x22 G' ⟨rfl,rfl,rfl,rfl,rfl,rfl,t,rfl,ht⟩
  have l12:=AHeap.le_trans l1 l2
  have oP2:=oP.le l12
  have oi:=own_ints (c:=es.length+1) (oc.le l12)
  rw [hbl] at oi
  unfold F75.B11
  refine pif_cases (fun hb=>?_) fun hb=>?_
  ·have ht3:t<3:=by have:=of_decide_eq_true hb;omega
   obtain ⟨j,hj1,hj2,hj3⟩:=at_get (es:=es) (w:=(i:Int)) (t:=t) (by omega)
   unfold F75.B10
   refine hW.ints.rd (by omega) (by omega) ?_
   rw [Int.toNat_natCast,hj1]
   unfold F75.B9
   refine nilK_mk (asP_mk (ld1_own oP2 rfl (oi.rd (by omega) (by omega) ?_)))
   rw [Int.toNat_natCast]
   have:(blank es).getD j 0=-1:=repG_get hj2
   rw [this]
   refine pif_t rfl ?_
   unfold F75.B5
   rw [wrap_id (by omega) (by omega)]
   exact ⟨⟨rfl,rfl,rfl,rfl,rfl,rfl,t+1,by omega,by omega⟩,by show 3-((t:Int)+1).toNat<3-(t:Int).toNat;omega⟩
  ·unfold F75.B3
   rw [wrap_id (by omega) (by omega)]
   exact ⟨⟨rfl,rfl,l12,i+1,by omega,by omega⟩,by show n.toNat-((i:Int)+1).toNat<n.toNat-(i:Int).toNat;omega⟩
 ·unfold F75.B1
  have hl1:=l1.1
  refine paintG_ok hC hg he hE hEl hEr hcb hub hne hp1 hp2 E.length 0 _ _ done G1 _ (by omega) (by omega) (AHeap.le_trans h0 l1) (by omega) oP1 (oc.le l1) (ou.le l1) hbl usedG_none (hC.st _ _ _ hJ (.le l1)) (by rw [List.drop_zero];exact hN) fun G2 f2 hJ2=>asB_mk ?_
  rw [List.drop_zero] at hJ2 ⊢
  exact k G2 ((Fnd.le l1).trans f2) hJ2
end
theorem painterG_ok {n:Int} {qE fV:Value} (hg:IsG n es) (he:Edges H v es) (hq:qE.oneCell'=true) (hf:fV.oneCell'=true)
 (k:∀ pb cb ub tP G,H.le G→H.length≤pb→H.length≤cb→H.length≤ub→cb≠ub→pb≠cb→pb≠ub→Own G pb tP [.int .i64 n,v,qE,.slice (some ⟨cb,0,none⟩) es.length (es.length+1),.slice (some ⟨ub,0,none⟩) n.toNat (n.toNat+1),fV]→
  Own G cb 2 (LI (blank es))→Own G ub 45 (LU (List.replicate n.toNat 0))→K (.pointer (some ⟨pb,0,none⟩)) G) :
 AC Tryz.prog T0 73 [.agg ⟨[.int .i64 n,v]⟩,qE,.bool false,fV] H K:=by
 have n0:=hg.ed.lo;have n1:=hg.ed.hi
 have h30:es.length≤30:=by have:=hg.ed.len;omega
 have hv:=edges_one' he
 apply F73.ac
 unfold F73.B10
 refine newK_f (all_iv hv) fun H1 l1 n1' o1=>?_
 have fin:∀ (G G':AHeap) (cb ub pb:Nat) (tP:TypeId),H1.le G→H1.length≤cb→H1.length≤ub→H1.length≤pb→cb≠ub→pb≠cb→pb≠ub→Own G pb tP [.int .i64 n,v,qE,.slice (some ⟨cb,0,none⟩) es.length (es.length+1),.slice (some ⟨ub,0,none⟩) n.toNat (n.toNat+1),fV]→
  Own G cb 2 (LI (List.replicate es.length (-1)))→Own G ub 45 (LU (List.replicate n.toNat 0))→F73.B8 K false H.length (.pointer (some ⟨pb,0,none⟩)) G:=by
  intro G G' cb ub pb tP hG h1 h2 h6 h3 h4 h5 oP oc ou
  unfold F73.B8
  refine pif_f rfl ?_
  unfold F73.B1
  have:=l1.1
  exact k pb cb ub tP G (AHeap.le_trans l1 hG) (by omega) (by omega) (by omega) h3 h4 h5 oP oc ou
 unfold F73.B9
 refine ldI_own o1 rfl (ld1_own o1 rfl (ld1_own o1 rfl ((he.le l1).len (ldI_own o1 rfl ⟨newK_f rfl fun H2 l2 n2 o2=>⟨?_,?_⟩,?_⟩))))
 ·refine repeat_ok (t:=-1) (by simpa using o2) (by omega) (by omega) fun H3 l3 o3=>?_
  have l13:=AHeap.le_trans l2 l3
  refine ⟨ldI_own (o1.le l13) rfl (ld1_own (o1.le l13) rfl ⟨rfl,rfl⟩),ldI_own (o1.le l13) rfl ⟨rfl,rfl⟩,mkR_int (by omega) (by omega) (by decide) fun H4 l4 n4 o4=>pif_t hq (pif_t rfl (pif_t rfl (pif_t hf (newK_f (by simp only [List.all_cons,List.all_nil,hv,hq,hf];rfl) fun H5 l5 n5 o5=>?_))))⟩
  rw [rep_u] at o4
  have:=lt_of_get o3
  have:=l2.1
  exact fin H5 H5 _ _ _ _ (AHeap.le_trans l13 (AHeap.le_trans l4 l5)) (by omega) (by have:=l3.1;omega) (by have:=l3.1;have:=l4.1;omega) (by omega) (by have:=l4.1;omega) (by omega) o5 (o3.le (AHeap.le_trans l4 l5)) (o4.le l5)
 ·refine mkR_int (by omega) (by omega) (by decide) fun H3 l3 n3 o3=>repeat_ok (t:=-1) (by simpa using o2.le l3) (by omega) (by omega) fun H4 l4 o4=>?_
  have l14:=AHeap.le_trans l2 (AHeap.le_trans l3 l4)
  refine ⟨ldI_own (o1.le l14) rfl (ld1_own (o1.le l14) rfl ⟨rfl,rfl⟩),ldI_own (o1.le l14) rfl ⟨rfl,rfl⟩,pif_t hq (pif_t rfl (pif_t rfl (pif_t hf (newK_f (by simp only [List.all_cons,List.all_nil,hv,hq,hf];rfl) fun H5 l5 n5 o5=>?_))))⟩
  rw [rep_u] at o3
  have:=lt_of_get o4
  have:=l2.1
  exact fin H5 H5 _ _ _ _ (AHeap.le_trans l14 l5) (by have:=l3.1;omega) (by omega) (by have:=l3.1;have:=l4.1;omega) (by omega) (by omega) (by have:=l4.1;omega) o5 (o4.le l5) (o3.le (AHeap.le_trans l4 l5))
 ·refine mkR_int (by omega) (by omega) (by decide) fun H2 l2 n2 o2=>newK_f rfl fun H3 l3 n3 o3=>repeat_ok (t:=-1) (by simpa using o3) (by omega) (by omega) fun H4 l4 o4=>?_
  have l14:=AHeap.le_trans l2 (AHeap.le_trans l3 l4)
  refine ⟨ldI_own (o1.le l14) rfl (ld1_own (o1.le l14) rfl ⟨rfl,rfl⟩),ldI_own (o1.le l14) rfl ⟨rfl,rfl⟩,pif_t hq (pif_t rfl (pif_t rfl (pif_t hf (newK_f (by simp only [List.all_cons,List.all_nil,hv,hq,hf];rfl) fun H5 l5 n5 o5=>?_))))⟩
  rw [rep_u] at o2
  have:=lt_of_get o4
  exact fin H5 H5 _ _ _ _ (AHeap.le_trans l14 l5) (by have:=l2.1;have:=l3.1;omega) (by omega) (by have:=l2.1;have:=l3.1;have:=l4.1;omega) (by have:=l3.1;omega) (by omega) (by have:=l3.1;have:=l4.1;omega) o5 (o4.le l5) (o2.le (AHeap.le_trans l3 (AHeap.le_trans l4 l5)))
theorem partEdges_ok {n:Int} (h:Edges H v es) (hg:IsG n es) (k:∀ v' G,H.le G→RowsF (fun b=>H.length≤b) G.length G v' (partL es n.toNat)→K v' G) :
 AC Tryz.prog T0 72 [.agg ⟨[.int .i64 n,v]⟩] H K:=by
 have n0:=hg.ed.lo;have n1:=hg.ed.hi
 have h30:es.length≤30:=by have:=hg.ed.len;omega
 have hz:restL es (fun j=>(0:Nat).testBit j)=es:=restL_none es fun j=>Nat.zero_testBit j
 apply F72.ac
 unfold F72.B18
 refine newK_f (all_iv (edges_one' h)) fun H1 l1 n1' o1=>?_
 unfold F72.B17 F72.B16
 refine ldI_own o1 rfl (ld1_own o1 rfl (sides_ok (s:=0) (h.le l1) hg (by decide) fun q H2 l2 hR=>?_))
 rw [hz] at hR
 have l12:=AHeap.le_trans l1 l2
 have o2:=o1.le l2
 have hll:=leadL_length es n.toNat
 have hpl:=partL_length (es:=es) n.toNat
 have hsn:=sidesN_le es n.toNat
 refine hR.len ?_
 unfold F72.L2
 refine ⟨fun x1 x3 x11 x12 x13 G=>H.length=x1∧q=x11∧(((sidesL es n.toNat).length:Nat):Int)=x12∧Keep H2.length H2 G∧∃ i:Nat,x13=i∧i≤(sidesL es n.toNat).length∧RowsF (fun b=>H2.length≤b) G.length G x3 ((partL es n.toNat).take i),fun _ _ _ _ x13 _=>(sidesL es n.toNat).length-x13.toNat,
  ⟨rfl,rfl,rfl,.refl,0,rfl,by omega,.nil⟩,?_⟩
 rintro x1 x3 x11 x12 x13 G ⟨rfl,rfl,rfl,kp,i,rfl,hi,hX⟩
 have lG:H.le G:=kp.le l12 l12.1
 have hRG:=hR.keep kp
 have oG:=kp.own o2 o2.lt
 have hGl:=kp.len
 unfold F72.B15
 refine pif_cases (fun hb=>?_) fun hb=>?_
 ·have hlt:i<(sidesL es n.toNat).length:=by have:=of_decide_eq_true hb;omega
  have hlt':i<(leadL es n.toNat).length:=by omega
  obtain ⟨s1,s2,s3⟩:=leadL_get hlt'
  have hpg:=partL_get hlt'
  obtain ⟨w,hw⟩:∃ w,w=(leadL es n.toNat)[i]:=⟨_,rfl⟩
  rw [← hw] at s1 s2 s3 hpg
  unfold F72.B14
  refine hRG.row hlt fun y fy=>?_
  rw [s1] at fy
  have hside:∀ x∈sideL es n.toNat w,0≤x∧x<64:=fun x hx=>by obtain ⟨j,rfl,hj,_⟩:=mem_sideL.1 hx;omega
  have hs64:setN (sideL es n.toNat w)<2^64:=setN_lt fun x hx=>(hside x hx).2
  have hslen:(sideL es n.toNat w).length≤n.toNat:=filtB_length _ _
  unfold F72.B13
  refine setOf_ok fy.ints (by omega) hside (asI_mk ?_)
  unfold F72.B12 F72.B11
  refine ld1_own oG rfl ((h.le lG).len ?_)
  unfold F72.L5
  refine ⟨fun x1 y3 x6 x7 x11 x12 x13 x20 x21 x22 G'=>H.length=x1∧x3=y3∧((setN (sideL es n.toNat w):Nat):Int)=x6∧q=x11∧(((sidesL es n.toNat).length:Nat):Int)=x12∧(i:Int)=x13∧v=x20∧(es.length:Int)=x21∧Keep G.length G G'∧∃ t:Nat,x22=t∧t≤es.length∧Fresh G.length G' x7 2 1 (LI (filtB (partB es w) t)),fun _ _ _ _ _ _ _ _ _ x22 _=>es.length-x22.toNat,
   ⟨rfl,rfl,rfl,rfl,rfl,rfl,rfl,rfl,.refl,0,rfl,by omega,.inl ⟨rfl,.inl rfl⟩⟩,?_⟩
  rintro x1 y3 x6 x7 x11 x12 x13 x20 x21 x22 G' ⟨rfl,rfl,rfl,rfl,rfl,rfl,rfl,rfl,kp',t,rfl,ht,hF⟩
  have lG':H.le G':=kp'.le lG lG.1
  unfold F72.B10
  refine pif_cases (fun hb=>?_) fun hb=>?_
  ·have hlt2:t<es.length:=by have:=of_decide_eq_true hb;omega
   have hm:es.getD t (0,0)∈es:=by rw [getD_of hlt2];exact List.getElem_mem _
   have hr:=isG_ends hg _ hm
   obtain ⟨bb,oo,hk,q1,q2⟩:=(h.le lG').idx (show (0:Int)≤t by omega) (by omega)
   simp only [Int.toNat_natCast] at q1 q2
   have hfl:=filtB_length (partB es w) t
   unfold F72.B9
   refine hk _ (ldI_mk q1 (ldI_mk q2 (newK_f rfl fun G2 l2' n2 o2'=>stK_f (new:=[.int .i64 (es.getD t (0,0)).1,.int .i64 (es.getD t (0,0)).2]) o2' (by simp) (by simp [Value.oneCell']) rfl fun G3 b3 o3=>?_)))
   have l3:G'.le G3:=b3.le l2' (Nat.le_refl _)
   have b1:(setN (sideL es n.toNat w)).testBit (es.getD t (0,0)).1.toNat=partB es w t:=side_bit (by omega)
   unfold F72.B8
   refine ldI_own o3 rfl (has_ok hs64 hr.1 (asB_mk ?_))
   rw [b1]
   have kp3:=kp'.trans (.of_le l3)
   have hF3:=hF.le l3
   refine pif_cases (fun hc=>?_) fun hc=>?_
   ·unfold F72.B7
    refine hF3.sl.pushN E_int (by decide) kp3.len (n:=1) (ys:=[.int .i64 (t:Int)]) rfl rfl (by simp;omega) (by simp) fun v3 G4 k4 _ _ f4=>?_
    unfold F72.B6
    rw [wrap_id (by omega) (by omega)]
    refine ⟨⟨rfl,rfl,rfl,rfl,rfl,rfl,rfl,rfl,kp3.trans k4,t+1,by omega,by omega,?_⟩,by simp;omega⟩
    rw [filtB_succ,hc];simpa using f4
   ·unfold F72.B6
    rw [wrap_id (by omega) (by omega)]
    refine ⟨⟨rfl,rfl,rfl,rfl,rfl,rfl,rfl,rfl,kp3,t+1,by omega,by omega,?_⟩,by simp;omega⟩
    rw [filtB_succ,hc];simpa using hF3
  ·have hte:t=es.length:=by have:=of_decide_eq_false hb;omega
   subst hte
   have hX':=hX.keep kp'
   have hx3:∀ b,bk x3=some b→H2.length≤b:=fun b hb=>by
    obtain ⟨vs,_,_,q3,_⟩:=hX
    exact (q3 b hb).1
   unfold F72.B4
   refine hX'.push kp'.len (fun b hb=>by omega) hF (by rw [List.length_take];omega) fun v' G4 ot nb hlen hR4=>?_
   unfold F72.B3
   rw [wrap_id (by omega) (by omega)]
   have hgl':=kp'.len
   refine ⟨⟨rfl,rfl,rfl,⟨by omega,fun b o hb ho=>ot b o (fun e=>by have:=hx3 b e;omega) (kp'.old b o (by have:=kp.len;omega) (kp.old b o hb ho))⟩,i+1,by omega,by omega,?_⟩,by simp;omega⟩
   rw [List.take_succ_eq_append_getElem (by omega),← getD_of (d:=[]) (by omega),hpg]
   exact hR4
 ·have hie:i=(sidesL es n.toNat).length:=by have:=of_decide_eq_false hb;omega
  subst hie
  unfold F72.B1
  rw [List.take_of_length_le (by omega)] at hX
  exact k x3 G lG (hX.mono (fun b hb=>by have:=l12.1;omega) (Nat.le_refl _))
end Go.Proofs
namespace Go.Proofs
open Go.Abs

variable {l m c d:List Int} {es fs:List (Int × Int)} {ls L:List (List Int)} {n:Int}

structure PrpC (es:List (Int × Int)) (d:List Int):Prop where
 len:d.length=es.length
 rng:∀ j:Nat,-1≤d.getD j 0∧d.getD j 0≤2
 col:∀ i j:Nat,i<es.length→j<es.length→i≠j→share (es.getD i (0,0)) (es.getD j (0,0))→0≤d.getD i 0→d.getD i 0≠d.getD j 0
theorem blank_get {j:Nat} (h:j<es.length):(blank es).getD j 0=-1:=by unfold blank;simp [List.getD,h]
theorem blank_prp:PrpC es (blank es):=by
 refine ⟨by unfold blank;simp,fun j=>?_,fun i j hi hj _ _ h0=>?_⟩
 ·by_cases h:j<es.length
  ·rw [blank_get h];omega
  ·unfold blank;simp [List.getD,h]
 ·rw [blank_get hi] at h0;omega
theorem PrpC.put {i x:Nat} (h:PrpC es d) (hi:i<es.length) (hx:x<3) (hc:clashB es d i (x:Int)=false):PrpC es (d.set i (x:Int)):=by
 have hl:=h.len
 have key:∀ j:Nat,j<es.length→share (es.getD i (0,0)) (es.getD j (0,0))→d.getD j 0≠(x:Int):=fun j hj hs e=>by
  have:clashB es d i (x:Int)=true:=clashB_iff.2 ⟨j,by omega,e,share_symm hs⟩
  rw [hc] at this;cases this
 refine ⟨by simpa using hl,fun j=>?_,fun a b ha hb hab hs h0=>?_⟩
 ·by_cases e:i=j
  ·subst e;rw [getD_set_self (by omega)];omega
  ·rw [getD_set_ne e];exact h.rng j
 ·by_cases e:i=a
  ·subst e
   rw [getD_set_self (by omega),getD_set_ne hab]
   exact fun h=>key b hb hs h.symm
  ·rw [getD_set_ne e] at h0 ⊢
   by_cases e2:i=b
   ·subst e2
    rw [getD_set_self (by omega)]
    exact key a ha (share_symm hs)
   ·rw [getD_set_ne e2]
    exact h.col a b ha hb hab hs h0
theorem ptL_sound:∀ (E c:List Int),PrpC es c→(∀ x∈E,0≤x∧x<es.length)→∀ d∈ptL es E c,PrpC es d∧(∀ j:Nat,0≤c.getD j 0→d.getD j 0=c.getD j 0)∧∀ x∈E,0≤d.getD x.toNat 0
 | [],c,hc,_,d,hd=>by
  rw [ptL,List.mem_singleton] at hd
  subst hd
  exact ⟨hc,fun _ _=>rfl,fun x hx=>by cases hx⟩
 | i::E,c,hc,hE,d,hd=>by
  have hi:=hE i (by simp)
  obtain ⟨q,rfl⟩:∃ q:Nat,i=q:=⟨i.toNat,by omega⟩
  by_cases h1:c.getD q 0=-1
  ·rw [ptL_cons h1] at hd
   unfold ptTo at hd
   rw [List.mem_flatMap] at hd
   obtain ⟨x,hx,hd⟩:=hd
   rw [List.mem_range] at hx
   cases hb:clashB es c q (x:Int) with
   | true=>rw [hb] at hd;simp at hd
   | false=>
    rw [hb] at hd
    simp only [Bool.false_eq_true,if_false] at hd
    have hl:=hc.len
    obtain ⟨g1,g2,g3⟩:=ptL_sound E _ (hc.put (by omega) hx hb) (fun y hy=>hE y (by simp [hy])) d hd
    have hq:d.getD q 0=(x:Int):=by
     have:=g2 q (by rw [getD_set_self (by omega)];omega)
     rwa [getD_set_self (by omega)] at this
    refine ⟨g1,fun j hj=>?_,fun y hy=>?_⟩
    ·have hne:q≠j:=fun e=>by subst e;omega
     have:=g2 j (by rw [getD_set_ne hne];exact hj)
     rwa [getD_set_ne hne] at this
    ·rcases List.mem_cons.1 hy with rfl|hy
     ·rw [Int.toNat_natCast,hq];omega
     ·exact g3 y hy
  ·rw [ptL_skip h1] at hd
   obtain ⟨g1,g2,g3⟩:=ptL_sound E c hc (fun y hy=>hE y (by simp [hy])) d hd
   have hr:=hc.rng q
   refine ⟨g1,g2,fun y hy=>?_⟩
   rcases List.mem_cons.1 hy with rfl|hy
   ·rw [Int.toNat_natCast,g2 q (by omega)];omega
   ·exact g3 y hy
theorem mem_ptL2 (hcl:c.length=es.length):∀ (E d:List Int),d.length=es.length→E.Nodup→(∀ i∈E,0≤i∧i<es.length∧(d.getD i.toNat 0=-1∨d.getD i.toNat 0=c.getD i.toNat 0)∧0≤c.getD i.toNat 0∧c.getD i.toNat 0≤2)→(∀ j:Nat,j<es.length→(j:Int)∉E→d.getD j 0=c.getD j 0)→
 (∀ i j:Nat,i<es.length→j<es.length→i≠j→share (es.getD i (0,0)) (es.getD j (0,0))→0≤c.getD i 0→c.getD i 0≠c.getD j 0)→c∈ptL es E d
 | [],d,hd,_,_,ho,_=>by
  rw [ptL,List.mem_singleton]
  exact List.ext_getElem (by omega) fun i h1 h2=>by
   have:=ho i (by omega) (by simp)
   rw [getD_of h2,getD_of h1] at this
   exact this.symm
 | i::E,d,hd,hn,hE,ho,hs=>by
  obtain ⟨h1,h2,h3,h4,h5⟩:=hE i (by simp)
  obtain ⟨j,rfl⟩:∃ j:Nat,i=j:=⟨i.toNat,by omega⟩
  rw [Int.toNat_natCast] at h3 h4 h5
  rw [List.nodup_cons] at hn
  by_cases hd1:d.getD j 0=-1
  ·rw [ptL_cons hd1]
   obtain ⟨x,hx⟩:∃ x:Nat,c.getD j 0=x:=⟨(c.getD j 0).toNat,by omega⟩
   unfold ptTo
   rw [List.mem_flatMap]
   refine ⟨x,List.mem_range.2 (by omega),?_⟩
   have hcl':clashB es d j (x:Int)=false:=by
    cases hb:clashB es d j (x:Int) with
    | false=>rfl
    | true=>
     obtain ⟨q,q1,q2,q3⟩:=clashB_iff.1 hb
     have hqj:q≠j:=fun e=>by subst e;omega
     have hqc:d.getD q 0=c.getD q 0:=by
      by_cases hqE:(q:Int)∈((j:Int)::E)
      ·have:=(hE (q:Int) hqE).2.2.1
       rw [Int.toNat_natCast] at this;omega
      ·exact ho q (by omega) hqE
     have:=hs j q (by omega) (by omega) (fun e=>hqj e.symm) (share_symm q3) h4
     omega
   rw [hcl']
   simp only [Bool.false_eq_true,if_false]
   refine mem_ptL2 hcl E (d.set j (x:Int)) (by simpa using hd) hn.2 (fun i hi=>?_) (fun q hq hqE=>?_) hs
   ·obtain ⟨g1,g2,g3,g4,g5⟩:=hE i (by simp [hi])
    refine ⟨g1,g2,?_,g4,g5⟩
    have:j≠i.toNat:=fun e=>by
     have:i=(j:Int):=by omega
     subst this;exact hn.1 hi
    rw [getD_set_ne this];exact g3
   ·by_cases e:j=q
    ·subst e;rw [getD_set_self (by omega)];exact hx.symm
    ·rw [getD_set_ne e]
     refine ho q hq fun hm=>?_
     rcases List.mem_cons.1 hm with h|h
     ·omega
     ·exact hqE h
  ·rw [ptL_skip hd1]
   refine mem_ptL2 hcl E d hd hn.2 (fun i hi=>hE i (by simp [hi])) (fun q hq hqE=>?_) hs
   by_cases e:j=q
   ·subst e;exact h3.resolve_left hd1
   ·refine ho q hq fun hm=>?_
    rcases List.mem_cons.1 hm with h|h
    ·omega
    ·exact hqE h
theorem edge_part {j:Nat} (hg:IsG n es) (hj:j<es.length):∃ v,v∈leadL es n.toNat∧(j:Int)∈partE es v:=by
 obtain ⟨a,b,e1,e2,e3⟩:=edge_ends hg hj
 obtain ⟨v,h1,h2,h3⟩:=lead_exists (fs:=es) a
 refine ⟨v,?_,?_⟩
 ·unfold leadL
  rw [List.mem_filter,List.mem_range]
  exact ⟨by omega,h2⟩
 ·unfold partE
  refine mem_filtB.2 ⟨j,rfl,hj,?_⟩
  unfold partB
  rw [e1,rchB_iff]
  exact h3
theorem part_share {i j v:Nat} (hg:IsG n es) (hi:i<es.length) (hj:j<es.length) (hs:share (es.getD i (0,0)) (es.getD j (0,0))) (hv:(i:Int)∈partE es v):(j:Int)∈partE es v:=by
 obtain ⟨q,h1,h2,h3⟩:=mem_filtB.1 hv
 obtain rfl:i=q:=by omega
 unfold partB at h3
 rw [rchB_iff] at h3
 obtain ⟨a,b,e1,e2,e3⟩:=edge_ends hg hi
 obtain ⟨a',b',e1',e2',e3'⟩:=edge_ends hg hj
 rw [e1] at h3
 have adj:∀ {k x y:Nat},k<es.length→es.getD k (0,0)=((x:Int),(y:Int))→vAdj es x y∧vAdj es y x:=fun {k x y} hk e=>by
  have hm:((x:Int),(y:Int))∈es:=by rw [← e,getD_of hk];exact List.getElem_mem hk
  exact ⟨.inl hm,.inr hm⟩
 obtain ⟨x,o1,o2⟩:=hs
 rw [e1] at o1
 rw [e1'] at o2
 unfold on at o1 o2
 simp only [Bool.or_eq_true,beq_iff_eq] at o1 o2
 refine mem_filtB.2 ⟨j,rfl,hj,?_⟩
 unfold partB
 rw [e1',rchB_iff]
 have h3:Rch (vAdj es) v a:=h3
 have hb:Rch (vAdj es) v b:=h3.step (adj hi e1).1
 show Rch (vAdj es) v a'
 have:a'=a∨a'=b∨b'=a∨b'=b:=by omega
 rcases this with h|h|h|h
 ·rw [h];exact h3
 ·rw [h];exact hb
 ·exact .step (by rw [h];exact h3) (adj hj e1').2
 ·exact .step (by rw [h];exact hb) (adj hj e1').2
theorem parts_isC (hg:IsG n es) (h:∀ v∈leadL es n.toNat,∃ d,PrpC es d∧∀ x∈partE es v,0≤d.getD x.toNat 0):∃ c,IsC es c:=by
 obtain ⟨pick,hp⟩:∃ pick:Nat→List Int,∀ v∈leadL es n.toNat,PrpC es (pick v)∧∀ x∈partE es v,0≤(pick v).getD x.toNat 0:=by
  refine ⟨fun v=>@dite (List Int) (v∈leadL es n.toNat) (Classical.propDecidable _) (fun hv=>Classical.choose (h v hv)) fun _=>[],fun v hv=>?_⟩
  simp only [dif_pos hv]
  exact Classical.choose_spec (h v hv)
 obtain ⟨ld,hl⟩:∃ ld:Nat→Nat,∀ j,j<es.length→ld j∈leadL es n.toNat∧(j:Int)∈partE es (ld j):=by
  refine ⟨fun j=>@dite Nat (j<es.length) (Classical.propDecidable _) (fun hj=>Classical.choose (edge_part hg hj)) fun _=>0,fun j hj=>?_⟩
  simp only [dif_pos hj]
  exact Classical.choose_spec (edge_part hg hj)
 have get:∀ q,q<es.length→((List.range es.length).map fun j:Nat=>(pick (ld j)).getD j 0).getD q 0=(pick (ld q)).getD q 0:=fun q hq=>by
  rw [getD_of (by simpa using hq),List.getElem_map,List.getElem_range]
 have pos:∀ q,q<es.length→0≤(pick (ld q)).getD q 0:=fun q hq=>by
  have:=(hp _ (hl q hq).1).2 _ (hl q hq).2
  rwa [Int.toNat_natCast] at this
 refine ⟨(List.range es.length).map fun j:Nat=>(pick (ld j)).getD j 0,by simp,fun x hx=>?_,fun j hj i hij hs=>?_⟩
 ·obtain ⟨j,hj,rfl⟩:=List.mem_map.1 hx
  rw [List.mem_range] at hj
  exact ⟨pos j hj,((hp _ (hl j hj).1).1.rng j).2⟩
 ·have hi:i<es.length:=by omega
  rw [get i hi,get j hj]
  have same:ld j=ld i:=by
   have h1:=part_share hg hi hj hs (hl i hi).2
   have h2:=(hl j hj).2
   obtain ⟨q,a1,a2,a3⟩:=mem_filtB.1 h1
   obtain ⟨q',b1,b2,b3⟩:=mem_filtB.1 h2
   obtain rfl:j=q:=by omega
   obtain rfl:j=q':=by omega
   unfold partB at a3 b3
   rw [rchB_iff] at a3 b3
   have l1:=(hl i hi).1
   have l2:=(hl j hj).1
   unfold leadL at l1 l2
   rw [List.mem_filter] at l1 l2
   exact lead_eq l2.2 l1.2 (b3.trans (a3.symm vAdj_symm))
  rw [same]
  exact (hp _ (hl i hi).1).1.col i j hi hj (by omega) hs (pos i hi)
-- a start with the colours of the first vertex's edges
noncomputable def nstTo (es:List (Int × Int)):Nat→List Int
 | 0=>blank es
 | t+1=>(nstTo es t).set ((atL es 0).getD t 0).toNat (t:Int)
theorem nstTo_len:∀ t,(nstTo es t).length=es.length
 | 0=>by unfold nstTo blank;simp
 | t+1=>by rw [nstTo,List.length_set,nstTo_len t]
theorem at0_get (hg:IsG n es) {t:Nat} (ht:t<3):∃ j:Nat,(atL es 0).getD t 0=j∧j<es.length∧on (es.getD j (0,0)) 0=true:=by
 have n0:=hg.ed.lo
 have h3:=hg.three (v:=0) (by omega) (by omega)
 have:=List.getElem_mem (show t<(atL es 0).length by omega)
 rw [← getD_of (d:=0) (by omega)] at this
 exact mem_atL.1 this
theorem at0_inj (hg:IsG n es) {s t:Nat} (hs:s<3) (ht:t<3) (h:(atL es 0).getD s 0=(atL es 0).getD t 0):s=t:=by
 have n0:=hg.ed.lo
 have h3:=hg.three (v:=0) (by omega) (by omega)
 have ha:(atL es 0).Nodup:=filtB_nodup _ _
 rw [getD_of (by omega),getD_of (by omega)] at h
 exact (List.getElem_inj ha).1 h
theorem nstTo_in (hg:IsG n es) {s:Nat}:∀ {t},s<t→t≤3→(nstTo es t).getD ((atL es 0).getD s 0).toNat 0=(s:Int)
 | 0,h,_=>absurd h (by omega)
 | t+1,h,ht=>by
  rw [nstTo]
  obtain ⟨j,e1,e2,_⟩:=at0_get hg (t:=t) (by omega)
  obtain ⟨i,e3,e4,_⟩:=at0_get hg (t:=s) (by omega)
  rw [e1,e3,Int.toNat_natCast,Int.toNat_natCast]
  by_cases e:s=t
  ·subst e
   have:i=j:=by omega
   subst this
   rw [getD_set_self (by rw [nstTo_len];exact e2)]
  ·rw [getD_set_ne (fun hji=>e (at0_inj hg (by omega) (by omega) (by rw [e1,e3,hji])))]
   have:=nstTo_in hg (s:=s) (t:=t) (by omega) (by omega)
   rwa [e3,Int.toNat_natCast] at this
theorem nstTo_out (hg:IsG n es) {j:Nat} (hj:j<es.length):∀ {t},t≤3→(∀ s,s<t→(atL es 0).getD s 0≠(j:Int))→(nstTo es t).getD j 0=-1
 | 0,_,_=>blank_get hj
 | t+1,ht,h=>by
  rw [nstTo]
  obtain ⟨i,e1,e2,_⟩:=at0_get hg (t:=t) (by omega)
  rw [getD_set_ne (fun e=>h t (by omega) (by omega))]
  exact nstTo_out hg hj (by omega) fun s hs=>h s (by omega)
theorem nstTo_val (hg:IsG n es) {j t:Nat} (hj:j<es.length) (ht:t≤3):(∃ s,s<t∧(atL es 0).getD s 0=(j:Int)∧(nstTo es t).getD j 0=(s:Int))∨(nstTo es t).getD j 0=-1:=by
 by_cases h:∃ s,s<t∧(atL es 0).getD s 0=(j:Int)
 ·obtain ⟨s,h1,h2⟩:=h
  have:=nstTo_in hg h1 ht
  rw [h2,Int.toNat_natCast] at this
  exact .inl ⟨s,h1,h2,this⟩
 ·exact .inr (nstTo_out hg hj ht fun s h1 h2=>h ⟨s,h1,h2⟩)
theorem nst_prp (hg:IsG n es) {t:Nat} (ht:t≤3):PrpC es (nstTo es t):=by
 refine ⟨nstTo_len t,fun j=>?_,fun i j hi hj hij hs h0=>?_⟩
 ·by_cases h:j<es.length
  ·rcases nstTo_val hg h ht with ⟨s,h1,h2,h3⟩|h3 <;> omega
  ·have:=nstTo_len (es:=es) t
   simp [List.getD,List.getElem?_eq_none (show (nstTo es t).length≤j by omega)]
 ·rcases nstTo_val hg hi ht with ⟨s,h1,h2,h3⟩|h3
  ·rcases nstTo_val hg hj ht with ⟨s',g1,g2,g3⟩|g3
   ·have:s≠s':=fun e=>by subst e;omega
    omega
   ·omega
  ·omega
theorem renamed (hg:IsG n es) (hc:IsC es c):∃ c',IsC es c'∧∀ s,s<3→c'.getD ((atL es 0).getD s 0).toNat 0=(s:Int):=by
 obtain ⟨i0,a0,b0,d0⟩:=at0_get hg (t:=0) (by omega)
 obtain ⟨i1,a1,b1,d1⟩:=at0_get hg (t:=1) (by omega)
 obtain ⟨i2,a2,b2,d2⟩:=at0_get hg (t:=2) (by omega)
 have ne:∀ i j:Nat,i<es.length→j<es.length→i≠j→on (es.getD i (0,0)) 0=true→on (es.getD j (0,0)) 0=true→c.getD i 0≠c.getD j 0:=fun i j hi hj hij o1 o2=>by
  rcases Nat.lt_or_gt_of_ne hij with h|h
  ·exact hc.col j hj i h ⟨0,o1,o2⟩
  ·exact fun e=>hc.col i hi j h ⟨0,o2,o1⟩ e.symm
 have n01:=ne i0 i1 b0 b1 (fun e=>by have:=at0_inj hg (s:=0) (t:=1) (by omega) (by omega) (by rw [a0,a1,e]);omega) d0 d1
 have n02:=ne i0 i2 b0 b2 (fun e=>by have:=at0_inj hg (s:=0) (t:=2) (by omega) (by omega) (by rw [a0,a2,e]);omega) d0 d2
 have n12:=ne i1 i2 b1 b2 (fun e=>by have:=at0_inj hg (s:=1) (t:=2) (by omega) (by omega) (by rw [a1,a2,e]);omega) d1 d2
 have r0:=hc.get i0;have r1:=hc.get i1;have r2:=hc.get i2
 obtain ⟨g,hgd⟩:∃ g:Int→Int,∀ x,g x=if x=c.getD i0 0 then 0 else if x=c.getD i1 0 then 1 else 2:=⟨fun x=>if x=c.getD i0 0 then 0 else if x=c.getD i1 0 then 1 else 2,fun _=>rfl⟩
 have gv:∀ x,0≤x∧x≤2→(x=c.getD i0 0∧g x=0)∨(x=c.getD i1 0∧g x=1)∨(x=c.getD i2 0∧g x=2):=fun x hx=>by
  rw [hgd]
  by_cases h0:x=c.getD i0 0
  ·rw [if_pos h0];exact .inl ⟨h0,rfl⟩
  ·rw [if_neg h0]
   by_cases h1:x=c.getD i1 0
   ·rw [if_pos h1];exact .inr (.inl ⟨h1,rfl⟩)
   ·rw [if_neg h1];exact .inr (.inr ⟨by omega,rfl⟩)
 have get:∀ q,q<es.length→((List.range es.length).map fun j:Nat=>g (c.getD j 0)).getD q 0=g (c.getD q 0):=fun q hq=>by
  rw [getD_of (by simpa using hq),List.getElem_map,List.getElem_range]
 refine ⟨(List.range es.length).map fun j:Nat=>g (c.getD j 0),⟨by simp,fun x hx=>?_,fun j hj i hij hs=>?_⟩,fun s hs=>?_⟩
 ·obtain ⟨j,_,rfl⟩:=List.mem_map.1 hx
  rcases gv _ (hc.get j) with ⟨_,h⟩|⟨_,h⟩|⟨_,h⟩ <;> rw [h] <;> omega
 ·rw [get i (by omega),get j hj]
  have h:=hc.col j hj i hij hs
  have g1:=gv _ (hc.get i)
  have g2:=gv _ (hc.get j)
  intro e
  omega
 ·have:s=0∨s=1∨s=2:=by omega
  rcases this with rfl|rfl|rfl
  ·rw [a0,Int.toNat_natCast,get i0 b0,hgd,if_pos rfl];rfl
  ·rw [a1,Int.toNat_natCast,get i1 b1,hgd,if_neg (fun e=>n01 e.symm),if_pos rfl];rfl
  ·rw [a2,Int.toNat_natCast,get i2 b2,hgd,if_neg (fun e=>n02 e.symm),if_neg (fun e=>n12 e.symm)];rfl
theorem nst_mem (hg:IsG n es) (hc:IsC es c):∃ d,d∈ptL es (partE es 0) (nstTo es 3):=by
 have n0:=hg.ed.lo
 obtain ⟨c',hc',hv⟩:=renamed hg hc
 have hcl:=hc'.len
 have hin:∀ s,s<3→(atL es 0).getD s 0∈partE es 0:=fun s hs=>by
  obtain ⟨j,e1,e2,e3⟩:=at0_get hg hs
  rw [e1]
  refine mem_filtB.2 ⟨j,rfl,e2,?_⟩
  unfold partB
  rw [rchB_iff]
  obtain ⟨a,b,f1,f2,f3⟩:=edge_ends hg e2
  rw [f1] at e3 ⊢
  have:a=0:=by
   unfold on at e3
   simp only [Bool.or_eq_true,beq_iff_eq] at e3
   omega
  subst this
  exact .refl
 refine ⟨restr (partE es 0) c',mem_ptL2 (by unfold restr;rw [List.length_map,List.length_range,hcl]) _ _ (nstTo_len 3) (partE_nodup 0) (fun i hi=>?_) (fun j hj hn=>?_) (fun i j hi hj hij hs h0=>?_)⟩
 ·obtain ⟨r1,r2⟩:=partE_rng hi
  obtain ⟨q,rfl⟩:∃ q:Nat,i=q:=⟨i.toNat,by omega⟩
  rw [Int.toNat_natCast,restr_get _ _ (by omega),if_pos hi]
  have hr:=hc'.get q
  refine ⟨r1,r2,?_,hr.1,hr.2⟩
  rcases nstTo_val hg (j:=q) (t:=3) (by omega) (by omega) with ⟨s,h1,h2,h3⟩|h3
  ·right
   have:=hv s h1
   rw [h2,Int.toNat_natCast] at this
   rw [h3,this]
  ·exact .inl h3
 ·rw [restr_get _ _ (by omega),if_neg hn]
  exact nstTo_out hg hj (by omega) fun s hs e=>hn (by rw [← e];exact hin s hs)
 ·rw [restr_get _ _ (by omega)] at h0 ⊢
  rw [restr_get _ _ (by omega)]
  have hr:=hc'.get j
  have hne:c'.getD i 0≠c'.getD j 0:=by
   rcases Nat.lt_or_gt_of_ne hij with h|h
   ·exact hc'.col j hj i h hs
   ·exact fun e=>hc'.col i hi j h (share_symm hs) e.symm
  split at h0
  ·rw [if_pos (by assumption)]
   split
   ·exact hne
   ·have:=hc'.get i;omega
  ·omega
end Go.Proofs
namespace Go.Proofs
open Go.Abs

variable {H G:AHeap} {v u f:Value} {l m c D:List Int} {es fs:List (Int × Int)} {K:Value→AHeap→Prop}

theorem sl_two {m0:Nat} {t:TypeId} {z:Nat} {cs:List Value} (h:Sl m0 H v t z cs) (k:∀ (b:Nat) (o:AObj),m0≤b→H[b]?=some (some o)→G[b]?=some (some o)):Sl m0 G v t z cs:=by
 rcases h with h|⟨b,n,pre,post,h1,h2,h3,h4⟩
 ·exact .inl h
 ·exact .inr ⟨b,n,pre,post,h1,h2,k b _ h1 h3,h4⟩
theorem painterB_ok {bb:Bool} {n:Int} {qE fV:Value} (hg:IsG n es) (he:Edges H v es) (hq:qE.oneCell'=true) (hf:fV.oneCell'=true)
 (k:∀ pb cb ub tP G,H.le G→H.length≤pb→H.length≤cb→H.length≤ub→cb≠ub→pb≠cb→pb≠ub→Own G pb tP [.int .i64 n,v,qE,.slice (some ⟨cb,0,none⟩) es.length (es.length+1),.slice (some ⟨ub,0,none⟩) n.toNat (n.toNat+1),fV]→
  Own G cb 2 (LI (blank es))→Own G ub 45 (LU (List.replicate n.toNat 0))→Own G H.length 26 [.int .i64 n,v]→F73.B8 K bb H.length (.pointer (some ⟨pb,0,none⟩)) G) :
 AC Tryz.prog T0 73 [.agg ⟨[.int .i64 n,v]⟩,qE,.bool bb,fV] H K:=by
 have n0:=hg.ed.lo;have n1:=hg.ed.hi
 have h30:es.length≤30:=by have:=hg.ed.len;omega
 have hv:=edges_one' he
 apply F73.ac
 unfold F73.B10
 refine newK_f (all_iv hv) fun H1 l1 n1' o1=>?_
 have fin:∀ (G G':AHeap) (cb ub pb:Nat) (tP:TypeId),H1.le G→H1.length≤cb→H1.length≤ub→H1.length≤pb→cb≠ub→pb≠cb→pb≠ub→Own G pb tP [.int .i64 n,v,qE,.slice (some ⟨cb,0,none⟩) es.length (es.length+1),.slice (some ⟨ub,0,none⟩) n.toNat (n.toNat+1),fV]→
  Own G cb 2 (LI (List.replicate es.length (-1)))→Own G ub 45 (LU (List.replicate n.toNat 0))→F73.B8 K bb H.length (.pointer (some ⟨pb,0,none⟩)) G:=by
  intro G G' cb ub pb tP hG h1 h2 h6 h3 h4 h5 oP oc ou
  have:=l1.1
  exact k pb cb ub tP G (AHeap.le_trans l1 hG) (by omega) (by omega) (by omega) h3 h4 h5 oP oc ou (o1.le hG)
 unfold F73.B9
 refine ldI_own o1 rfl (ld1_own o1 rfl (ld1_own o1 rfl ((he.le l1).len (ldI_own o1 rfl ⟨newK_f rfl fun H2 l2 n2 o2=>⟨?_,?_⟩,?_⟩))))
 ·refine repeat_ok (t:=-1) (by simpa using o2) (by omega) (by omega) fun H3 l3 o3=>?_
  have l13:=AHeap.le_trans l2 l3
  refine ⟨ldI_own (o1.le l13) rfl (ld1_own (o1.le l13) rfl ⟨rfl,rfl⟩),ldI_own (o1.le l13) rfl ⟨rfl,rfl⟩,mkR_int (by omega) (by omega) (by decide) fun H4 l4 n4 o4=>pif_t hq (pif_t rfl (pif_t rfl (pif_t hf (newK_f (by simp only [List.all_cons,List.all_nil,hv,hq,hf];rfl) fun H5 l5 n5 o5=>?_))))⟩
  rw [rep_u] at o4
  have:=lt_of_get o3
  have:=l2.1
  exact fin H5 H5 _ _ _ _ (AHeap.le_trans l13 (AHeap.le_trans l4 l5)) (by omega) (by have:=l3.1;omega) (by have:=l3.1;have:=l4.1;omega) (by omega) (by have:=l4.1;omega) (by omega) o5 (o3.le (AHeap.le_trans l4 l5)) (o4.le l5)
 ·refine mkR_int (by omega) (by omega) (by decide) fun H3 l3 n3 o3=>repeat_ok (t:=-1) (by simpa using o2.le l3) (by omega) (by omega) fun H4 l4 o4=>?_
  have l14:=AHeap.le_trans l2 (AHeap.le_trans l3 l4)
  refine ⟨ldI_own (o1.le l14) rfl (ld1_own (o1.le l14) rfl ⟨rfl,rfl⟩),ldI_own (o1.le l14) rfl ⟨rfl,rfl⟩,pif_t hq (pif_t rfl (pif_t rfl (pif_t hf (newK_f (by simp only [List.all_cons,List.all_nil,hv,hq,hf];rfl) fun H5 l5 n5 o5=>?_))))⟩
  rw [rep_u] at o3
  have:=lt_of_get o4
  have:=l2.1
  exact fin H5 H5 _ _ _ _ (AHeap.le_trans l14 l5) (by have:=l3.1;omega) (by omega) (by have:=l3.1;have:=l4.1;omega) (by omega) (by omega) (by have:=l4.1;omega) o5 (o4.le l5) (o3.le (AHeap.le_trans l4 l5))
 ·refine mkR_int (by omega) (by omega) (by decide) fun H2 l2 n2 o2=>newK_f rfl fun H3 l3 n3 o3=>repeat_ok (t:=-1) (by simpa using o3) (by omega) (by omega) fun H4 l4 o4=>?_
  have l14:=AHeap.le_trans l2 (AHeap.le_trans l3 l4)
  refine ⟨ldI_own (o1.le l14) rfl (ld1_own (o1.le l14) rfl ⟨rfl,rfl⟩),ldI_own (o1.le l14) rfl ⟨rfl,rfl⟩,pif_t hq (pif_t rfl (pif_t rfl (pif_t hf (newK_f (by simp only [List.all_cons,List.all_nil,hv,hq,hf];rfl) fun H5 l5 n5 o5=>?_))))⟩
  rw [rep_u] at o2
  have:=lt_of_get o4
  exact fin H5 H5 _ _ _ _ (AHeap.le_trans l14 l5) (by have:=l2.1;have:=l3.1;omega) (by omega) (by have:=l2.1;have:=l3.1;have:=l4.1;omega) (by have:=l3.1;omega) (by omega) (by have:=l3.1;have:=l4.1;omega) o5 (o4.le l5) (o2.le (AHeap.le_trans l3 (AHeap.le_trans l4 l5)))
theorem painterN_ok {n:Int} {qE fV:Value} (hg:IsG n es) (he:Edges H v es) (hq:qE.oneCell'=true) (hf:fV.oneCell'=true)
 (k:∀ pb cb ub tP us G,H.le G→H.length≤pb→H.length≤cb→H.length≤ub→cb≠ub→pb≠cb→pb≠ub→Own G pb tP [.int .i64 n,v,qE,.slice (some ⟨cb,0,none⟩) es.length (es.length+1),.slice (some ⟨ub,0,none⟩) n.toNat (n.toNat+1),fV]→
  Own G cb 2 (LI (nstTo es 3))→Own G ub 45 (LU us)→UsedOk es n.toNat (nstTo es 3) us→K (.pointer (some ⟨pb,0,none⟩)) G) :
 AC Tryz.prog T0 73 [.agg ⟨[.int .i64 n,v]⟩,qE,.bool true,fV] H K:=by
 have n0:=hg.ed.lo;have n1:=hg.ed.hi
 have h30:es.length≤30:=by have:=hg.ed.len;omega
 refine painterB_ok hg he hq hf fun pb cb ub tP G lG hp hc hu q3 q4 q5 oP oc ou oG=>?_
 unfold F73.B8
 refine pif_t rfl ?_
 unfold F73.B7
 refine ldI_own oG rfl (ld1_own oG rfl (at_ok (he.le lG) (by omega) fun w G2 l2 hW=>?_))
 have h3:=hg.three (v:=0) (by omega) (by omega)
 refine hW.len (by decide) (n:=3) (by rw [List.length_map,h3]) ?_
 have hcl:=lt_of_get oc
 have hul:=lt_of_get ou
 have hpl:=lt_of_get oP
 unfold F73.L2
 refine ⟨fun x9 x27 x28 x29 G'=>.pointer (some ⟨pb,0,none⟩)=x9∧w=x27∧((3:Nat):Int)=x28∧∃ (t:Nat) (us:List Nat),x29=t∧t≤3∧Two cb ub G2 G'∧Own G' cb 2 (LI (nstTo es t))∧Own G' ub 45 (LU us)∧UsedOk es n.toNat (nstTo es t) us,fun _ _ _ x29 _=>3-x29.toNat,
  ⟨rfl,rfl,rfl,0,_,rfl,by omega,.le (AHeap.le_refl _),oc.le l2,ou.le l2,usedG_none⟩,?_⟩
 rintro x9 x27 x28 x29 G' ⟨rfl,rfl,rfl,t,us,rfl,ht,tw,oc',ou',hU⟩
 have oP':=tw.old _ _ q4 q5 (oP.le l2)
 have lG':=tw.base (AHeap.le_trans lG l2) hc hu
 unfold F73.B6
 refine pif_cases (fun hb=>?_) fun hb=>?_
 ·have ht3:t<3:=by have:=of_decide_eq_true hb;omega
  have hW':Ints G' w (atL es 0):=(sl_two hW fun b o hb ho=>tw.old b o (by omega) (by omega) ho).ints
  obtain ⟨j,hj1,hj2,hj3⟩:=at0_get hg ht3
  unfold F73.B5
  refine hW'.rd (by omega) (by omega) ?_
  rw [Int.toNat_natCast,hj1]
  unfold F73.B4
  have hbl:(nstTo es t).getD j 0=-1:=nstTo_out hg hj2 ht fun s hs e=>by
   have:=at0_inj hg (s:=s) (t:=t) (by omega) ht3 (by rw [e,hj1])
   omega
  have hul':=hU.1
  refine give_ok (x:=t) hg he lG' hc hu q3 q4 q5 oP' oc' ou' (nstTo_len t) hul' (fun w hw=>(hU.2 w hw).1) hj2 (by omega) fun G3 t3 oc3 ou3=>asTup_mk ?_
  obtain ⟨a,b,e1,e2,e3⟩:=edge_ends hg hj2
  have hU3:=hU.give (x:=t) (by rw [nstTo_len];exact hj2) hbl e1 (by omega) (by omega) (by omega) (by omega)
  rw [e1,Int.toNat_natCast,Int.toNat_natCast] at ou3
  unfold F73.B3
  rw [wrap_id (by omega) (by omega)]
  have hs:nstTo es (t+1)=(nstTo es t).set j (t:Int):=by rw [nstTo,hj1,Int.toNat_natCast]
  exact ⟨⟨rfl,rfl,rfl,t+1,_,by omega,by omega,tw.trans t3,by rw [hs];exact oc3,ou3,by rw [hs];exact hU3⟩,by simp;omega⟩
 ·have:t=3:=by have:=of_decide_eq_false hb;omega
  subst this
  unfold F73.B1
  exact k pb cb ub tP us G' lG' hp hc hu q3 q4 q5 oP' oc' ou' hU
section
variable {n:Int} {H0:AHeap} {pb cb ub:Nat} {tP:TypeId} {qE fV:Value} {X:Nat→Prop} {J:List (List Int)→AHeap→Prop} {q:List Int→Bool} {N Bd:Nat}
theorem startN_ok {E:List Int} {us:List Nat} {done:List (List Int)} (hC:Caller es H0 pb cb ub fV X Bd J q N) (hg:IsG n es) (he:Edges H0 v es) (hE:Ints H0 qE E) (hEl:E.length≤1000) (hEr:∀ x∈E,0≤x∧x<es.length) (hcb:H0.length≤cb) (hub:H0.length≤ub) (hne:cb≠ub) (hp1:pb≠cb) (hp2:pb≠ub) (h0:H0.le G) (hBd:Bd≤G.length) (hc:PrpC es c) (hU:UsedOk es n.toNat c us)
 (oP:Own G pb tP [.int .i64 n,v,qE,.slice (some ⟨cb,0,none⟩) es.length (es.length+1),.slice (some ⟨ub,0,none⟩) n.toNat (n.toNat+1),fV])
 (oc:Own G cb 2 (LI c)) (ou:Own G ub 45 (LU us)) (hJ:J done G) (hN:done.length+(ptL es E c).length≤N)
 (k:∀ G',Fnd X G G'→J (done++upTo q (ptL es E c)) G'→K (.bool ((ptL es E c).any q)) G') :
 AC Tryz.prog T0 75 [.pointer (some ⟨pb,0,none⟩)] G K:=by
 have n0:=hg.ed.lo;have n1:=hg.ed.hi
 have h30:es.length≤30:=by have:=hg.ed.len;omega
 have hcl:=hc.len
 apply F75.ac
 unfold F75.B17 F75.B16
 refine nilK_mk (asP_mk (ldI_own oP rfl ?_))
 unfold F75.L2
 refine ⟨fun x0 x11 x12 G'=>.pointer (some ⟨pb,0,none⟩)=x0∧n=x11∧G.le G'∧∃ i:Nat,x12=i∧i≤n.toNat,fun _ _ x12 _=>n.toNat-x12.toNat,⟨rfl,rfl,AHeap.le_refl _,0,rfl,by omega⟩,?_⟩
 rintro x0 x11 x12 G1 ⟨rfl,rfl,l1,i,rfl,hi⟩
 unfold F75.B15
 have oP1:=oP.le l1
 refine pif_cases (fun hb=>?_) fun hb=>?_
 ·have hin:i<n.toNat:=by have:=of_decide_eq_true hb;omega
  unfold F75.B14 F75.B13 F75.B12
  refine nilK_mk (asP_mk (ldI_own oP1 rfl (ld1_own oP1 rfl (at_ok (he.le (AHeap.le_trans h0 l1)) (by omega) fun w G2 l2 hW=>?_))))
  have h3:=hg.three (v:=(i:Int)) (by omega) (by omega)
  refine hW.len (by decide) (n:=3) (by rw [List.length_map,h3]) ?_
  unfold F75.L4
  refine ⟨fun x0 x4 x11 x12 x20 x21 x22 G'=>.pointer (some ⟨pb,0,none⟩)=x0∧n=x11∧((i:Nat):Int)=x12∧w=x20∧((3:Nat):Int)=x21∧G2=G'∧∃ t s:Nat,x22=t∧t≤3∧x4=s∧s<2^64∧∀ k:Nat,s.testBit k=true↔∃ t',t'<t∧c.getD ((atL es (i:Int)).getD t' 0).toNat 0=k,fun _ _ _ _ _ _ x22 _=>3-x22.toNat,⟨rfl,rfl,rfl,rfl,rfl,rfl,0,0,rfl,by omega,rfl,by decide,fun k=>by simp⟩,?_⟩
  rintro x0 x4 x11 x12 x20 x21 x22 G' ⟨rfl,rfl,rfl,rfl,rfl,rfl,t,s,rfl,ht,rfl,hs64,hs⟩
  have l12:=AHeap.le_trans l1 l2
  have oP2:=oP.le l12
  have oi:=own_ints (c:=es.length+1) (oc.le l12)
  rw [hcl] at oi
  unfold F75.B11
  refine pif_cases (fun hb=>?_) fun hb=>?_
  ·have ht3:t<3:=by have:=of_decide_eq_true hb;omega
   obtain ⟨j,hj1,hj2,hj3⟩:=at_get (es:=es) (w:=(i:Int)) (t:=t) (by omega)
   unfold F75.B10
   refine hW.ints.rd (by omega) (by omega) ?_
   rw [Int.toNat_natCast,hj1]
   unfold F75.B9
   refine nilK_mk (asP_mk (ld1_own oP2 rfl (oi.rd (by omega) (by omega) ?_)))
   rw [Int.toNat_natCast]
   have hrj:=hc.rng j
   refine pif_cases (fun hc1=>?_) fun hc1=>?_
   ·have hc1:c.getD j 0=-1:=beq_iff_eq.1 hc1
    unfold F75.B5
    rw [wrap_id (by omega) (by omega)]
    refine ⟨⟨rfl,rfl,rfl,rfl,rfl,rfl,t+1,s,by omega,by omega,rfl,hs64,fun k=>?_⟩,by show 3-((t:Int)+1).toNat<3-(t:Int).toNat;omega⟩
    rw [hs k]
    constructor
    ·rintro ⟨t',h1,h2⟩;exact ⟨t',by omega,h2⟩
    ·rintro ⟨t',h1,h2⟩
     by_cases e:t'=t
     ·subst e;rw [hj1,Int.toNat_natCast] at h2;omega
     ·exact ⟨t',by omega,h2⟩
   ·have hc1:c.getD j 0≠-1:=beq_eq_false_iff_ne.1 hc1
    have hfalse:s.testBit (c.getD j 0).toNat=false:=by
     cases hbt:s.testBit (c.getD j 0).toNat with
     | false=>rfl
     | true=>
      obtain ⟨t',h1,h2⟩:=(hs _).1 hbt
      obtain ⟨j',g1,g2,g3⟩:=at_get (es:=es) (w:=(i:Int)) (t:=t') (by omega)
      rw [g1,Int.toNat_natCast] at h2
      have hne':j'≠j:=fun e=>by
       have hnd:(atL es (i:Int)).Nodup:=filtB_nodup _ _
       have e2:(atL es (i:Int)).getD t' 0=(atL es (i:Int)).getD t 0:=by rw [g1,hj1,e]
       rw [getD_of (by omega),getD_of (by omega)] at e2
       have:=(List.getElem_inj hnd).1 e2
       omega
      exact absurd (show c.getD j 0=c.getD j' 0 by omega) (hc.col j j' hj2 g2 (fun e=>hne' e.symm) ⟨_,hj3,g3⟩ (by omega))
    unfold F75.B8
    refine nilK_mk (asP_mk (ld1_own oP2 rfl (oi.rd (by omega) (by omega) ?_)))
    rw [Int.toNat_natCast]
    refine has_ok hs64 (by omega) (asB_mk (pif_f hfalse ?_))
    unfold F75.B6
    refine nilK_mk (asP_mk (ld1_own oP2 rfl (oi.rd (by omega) (by omega) ?_)))
    rw [Int.toNat_natCast]
    have px:2^(c.getD j 0).toNat<2^64:=Nat.pow_lt_pow_right (by decide) (by omega)
    refine ⟨by omega,?_⟩
    rw [one_shl (by omega) (by omega),bits_or hs64 px]
    unfold F75.B5
    rw [wrap_id (by omega) (by omega)]
    refine ⟨⟨rfl,rfl,rfl,rfl,rfl,rfl,t+1,s|||2^(c.getD j 0).toNat,by omega,by omega,rfl,or_lt hs64 px,fun k=>?_⟩,by show 3-((t:Int)+1).toNat<3-(t:Int).toNat;omega⟩
    rw [Nat.testBit_or,Bool.or_eq_true,hs k,Nat.testBit_two_pow,decide_eq_true_iff]
    constructor
    ·rintro (⟨t',h1,h2⟩|h)
     ·exact ⟨t',by omega,h2⟩
     ·exact ⟨t,by omega,by rw [hj1,Int.toNat_natCast];omega⟩
    ·rintro ⟨t',h1,h2⟩
     by_cases e:t'=t
     ·subst e;rw [hj1,Int.toNat_natCast] at h2;right;omega
     ·exact .inl ⟨t',by omega,h2⟩
  ·unfold F75.B3
   rw [wrap_id (by omega) (by omega)]
   exact ⟨⟨rfl,rfl,l12,i+1,by omega,by omega⟩,by show n.toNat-((i:Int)+1).toNat<n.toNat-(i:Int).toNat;omega⟩
 ·unfold F75.B1
  have hl1:=l1.1
  refine paintG_ok hC hg he hE hEl hEr hcb hub hne hp1 hp2 E.length 0 _ _ done G1 _ (by omega) (by omega) (AHeap.le_trans h0 l1) (by omega) oP1 (oc.le l1) (ou.le l1) hcl hU (hC.st _ _ _ hJ (.le l1)) (by rw [List.drop_zero];exact hN) fun G2 f2 hJ2=>asB_mk ?_
  rw [List.drop_zero] at hJ2 ⊢
  exact k G2 ((Fnd.le l1).trans f2) hJ2
end
end Go.Proofs
namespace Go.Proofs
open Go.Abs

variable {H G:AHeap} {v u f:Value} {l m c D:List Int} {es fs:List (Int × Int)} {K:Value→AHeap→Prop} {n:Int}

theorem noB_le (G:AHeap) (b:Nat):AHeap.le (G.set b none) G:=by
 refine ⟨by simp,fun c o h=>?_⟩
 by_cases e:c=b
 ·subst e
  rw [List.getElem?_set] at h
  simp at h
 ·rwa [List.getElem?_set_ne (fun h=>e h.symm)] at h
theorem le_noB {b:Nat} (h:H.le G) (hb:H.length≤b):H.le (G.set b none):=by
 refine ⟨by simpa using h.1,fun c o ho=>?_⟩
 have:=lt_of_get ho
 rw [List.getElem?_set_ne (by omega)]
 exact h.2 c o ho
theorem noB_get {b c:Nat} {o:AObj} (h:(G.set b none:AHeap)[c]?=some (some o)):c≠b:=fun e=>by
 subst e
 rw [List.getElem?_set] at h
 simp at h
theorem lead_zero {N:Nat} (h:0<N):∃ r,leadL es N=0::r:=by
 obtain ⟨k,rfl⟩:∃ k,N=k+1:=⟨N-1,by omega⟩
 unfold leadL
 rw [List.range_succ_eq_map,List.filter_cons,if_pos (vLeadB_iff.2 fun b hb=>absurd hb (by omega))]
 exact ⟨_,rfl⟩
noncomputable def stN (es:List (Int × Int)) (i:Nat):List Int:=if i=0 then nstTo es 3 else blank es
theorem stN_prp (hg:IsG n es) (i:Nat):PrpC es (stN es i):=by
 unfold stN;split
 ·exact nst_prp hg (Nat.le_refl _)
 ·exact blank_prp
theorem stN_has (hg:IsG n es) (hc:∃ c,IsC es c) {i:Nat} (hi:i<(partL es n.toNat).length):ptL es ((partL es n.toNat).getD i []) (stN es i)≠[]:=by
 obtain ⟨c,hc⟩:=hc
 have n0:=hg.ed.lo
 have hl:i<(leadL es n.toNat).length:=by unfold partL at hi;simpa using hi
 rw [partL_get hl]
 unfold stN
 by_cases h0:i=0
 ·subst h0
  rw [if_pos rfl]
  obtain ⟨r,hr⟩:=lead_zero (es:=es) (show 0<n.toNat by omega)
  have:(leadL es n.toNat)[0]=0:=by simp only [hr,List.getElem_cons_zero]
  rw [this]
  obtain ⟨d,hd⟩:=nst_mem hg hc
  exact fun e=>by rw [e] at hd;cases hd
 ·rw [if_neg h0]
  exact fun e=>by have:=restr_mem hc (v:=(leadL es n.toNat)[i]);rw [e] at this;cases this
theorem stN_all (hg:IsG n es) (h:∀ i,i<(partL es n.toNat).length→ptL es ((partL es n.toNat).getD i []) (stN es i)≠[]):∃ c,IsC es c:=by
 refine parts_isC hg fun v hv=>?_
 obtain ⟨i,hi,rfl⟩:=List.getElem_of_mem hv
 have:=h i (by unfold partL;simpa using hi)
 rw [partL_get hi] at this
 obtain ⟨d,hd⟩:=List.exists_mem_of_ne_nil _ this
 obtain ⟨g1,_,g3⟩:=ptL_sound _ _ (stN_prp hg i) (fun x hx=>partE_rng hx) d hd
 exact ⟨d,g1,g3⟩
theorem any_true {L:List (List Int)}:L.any (fun _=>true)=!L.isEmpty:=by cases L <;> simp
theorem first_ok (h:Edges H v es) (hg:IsG n es) (k:∀ v' G,H.le G→(∀ K:Bool→Prop,(∀ b:Bool,(b=true↔¬ ∃ c,IsC es c)→K b)→isNilK v' K)→K v' G) :
 AC Tryz.prog T0 46 [.agg ⟨[.int .i64 n,v]⟩] H K:=by
 have n0:=hg.ed.lo;have n1:=hg.ed.hi
 have h30:es.length≤30:=by have:=hg.ed.len;omega
 apply F46.ac
 unfold F46.B11
 refine newK_f (all_iv (edges_one' h)) fun H1 l1 n1' o1=>?_
 unfold F46.B10
 refine ld1_own o1 rfl ((h.le l1).len (mkR_int (by omega) (by omega) (by decide) fun H2 l2 n2 o2=>?_))
 refine newK_f rfl fun H3 l3 n3 o3=>pif_t rfl (stK_1 o3 (by simp) rfl fun H4 b4 o4=>?_)
 rw [rep_one] at o2
 have l34:H2.le H4:=b4.le l3 (Nat.le_refl _)
 have l24:H1.le H4:=AHeap.le_trans l2 l34
 have l04:=AHeap.le_trans l1 l24
 have hlt1:=lt_of_get o1
 have hlt2:=lt_of_get o2
 have hl4:=l34.1
 obtain ⟨ob,hob⟩:∃ ob,ob=H1.length:=⟨_,rfl⟩
 obtain ⟨xb,hxb⟩:∃ xb,xb=H2.length:=⟨_,rfl⟩
 rw [← hob] at o2 o4
 rw [← hxb] at o4 ⊢
 simp only [Int.toNat_natCast,List.set_cons_zero] at o4 o2
 unfold F46.B9
 refine ldI_own (o1.le l24) rfl (ld1_own (o1.le l24) rfl (partEdges_ok (h.le l04) hg fun x8 H5 l5 hR=>?_))
 have hpl:=partL_length (es:=es) n.toNat
 have hsn:=sidesN_le es n.toNat
 have hlt4:=lt_of_get o4
 have hl5:=l5.1
 refine hR.len ?_
 have out5:Own H5 ob 2 (LI (List.replicate es.length 0)):=(o2.le l34).le l5
 have x5':=o4.le l5
 have g5:=(o1.le l24).le l5
 have l15:=AHeap.le_trans l24 l5
 have l05:=AHeap.le_trans l1 l15
 unfold F46.L2
 refine ⟨fun x1 x3 x12 x13 x14 G=>H.length=x1∧xb=x3∧x8=x12∧(((partL es n.toNat).length:Nat):Int)=x13∧Fnd (fun b=>b=ob) H5 G∧(∃ o:List Int,Own G ob 2 (LI o)∧o.length=es.length)∧∃ i:Nat,x14=i∧i≤(partL es n.toNat).length∧∀ j,j<i→ptL es ((partL es n.toNat).getD j []) (stN es j)≠[],
  fun _ _ _ _ x14 _=>(partL es n.toNat).length-x14.toNat,⟨rfl,rfl,rfl,rfl,.refl,⟨_,out5,by simp⟩,0,rfl,by omega,fun j hj=>absurd hj (by omega)⟩,?_⟩
 rintro x1 x3 x12 x13 x14 G ⟨rfl,rfl,rfl,rfl,fG,⟨o,oo,hol⟩,i,rfl,hi,hall⟩
 have oxG:=fG.own x5' (by omega)
 have ogG:=fG.own g5 (by omega)
 have hGl:=fG.len
 have hob0:H.length≤ob:=by have:=l1.1;omega
 have l0G:H.le G:=fG.base l05 fun b o hb=>by have:=lt_of_get hb;omega
 have hRG:=hR.move (G:=G) fun b o ha _ ho=>fG.old b o (by omega) ho
 unfold F46.B8
 refine pif_cases (fun hb=>?_) fun hb=>?_
 ·have hlt:i<(partL es n.toNat).length:=by have:=of_decide_eq_true hb;omega
  have hE:(partL es n.toNat).getD i []∈partL es n.toNat:=by rw [getD_of hlt];exact List.getElem_mem hlt
  obtain ⟨E,hEe⟩:∃ E,E=(partL es n.toNat).getD i []:=⟨_,rfl⟩
  rw [← hEe] at hE
  have hEr:∀ x∈E,0≤x∧x<es.length:=fun x hx=>by
   unfold partL at hE
   obtain ⟨w,_,rfl⟩:=List.mem_map.1 hE
   exact partE_rng hx
  have hEl:E.length≤es.length:=by
   unfold partL at hE
   obtain ⟨w,_,rfl⟩:=List.mem_map.1 hE
   exact filtB_length _ _
  unfold F46.B7
  refine hRG.rowA hlt fun y fy hyA=>?_
  rw [← hEe] at fy
  have hyo:y.oneCell'=true:=ints_one fy.ints
  refine newK_f rfl fun G1 g1 m1 p1=>pif_t hyo (stK_1 p1 (by simp) hyo fun G2 q2 p2=>?_)
  simp only [List.set_cons_zero] at p2
  have l2':G.le G2:=q2.le g1 (Nat.le_refl _)
  have hG2l:=l2'.1
  have oo2:=oo.le l2'
  have hlo:=lt_of_get oo
  have hlx:=lt_of_get oxG
  have hlp:=lt_of_get p2
  have ox2:=oxG.le l2'
  have og2:=ogG.le l2'
  have fy2:=fy.le l2'
  unfold F46.B6
  refine ldI_own og2 rfl (ld1_own og2 rfl (ld1_own p2 rfl ?_))
  have hfv:(Value.func (.func 74) ⟨[]⟩ ⟨[.pointer (some ⟨G.length,0,none⟩),.pointer (some ⟨xb,0,none⟩)]⟩).oneCell'=true:=rfl
  -- the heap without the list that is filled
  have le0:H.le (G2.set ob none):=le_noB (AHeap.le_trans l0G l2') hob0
  have y0:Ints (G2.set ob none:AHeap) y E:=(fresh_oth (G:=(G2.set ob none:AHeap)) fy2 fun b o hb ho=>by
   have:=hyA b hb
   rw [List.getElem?_set_ne (by omega)];exact ho).ints
  have hlen0:(G2.set ob none:AHeap).length=G2.length:=by simp
  have call:∀ pb cb ub:Nat,G2.length≤pb→G2.length≤cb→G2.length≤ub→∀ N,Caller es (G2.set ob none) pb cb ub (.func (.func 74) ⟨[]⟩ ⟨[.pointer (some ⟨G.length,0,none⟩),.pointer (some ⟨xb,0,none⟩)]⟩) (fun b=>b=ob) (ob+1) (fun done A=>∃ o:List Int,Own A ob 2 (LI o)∧o.length=es.length) (fun _=>true) N:=by
   intro pb cb ub h1 h2 h3 N
   refine ⟨fun b o hb=>noB_get hb,by omega,by omega,by omega,fun b e=>by omega,fun done A B ⟨o,hA,hAl⟩ t=>⟨o,t.old _ _ (by omega) (by omega) hA,hAl⟩,fun done c' A hA oc' hl' hJ hd K' hK'=>callV_mk ?_⟩
   obtain ⟨o',oo',hol'⟩:=hJ
   have pA:=hA.2 G.length _ ((List.getElem?_set_ne (show ob≠G.length by omega)).trans p2)
   have xA:=hA.2 xb _ ((List.getElem?_set_ne (show ob≠xb by omega)).trans ox2)
   have yA:=y0.le hA
   apply F74.ac
   unfold F74.B8 F74.B7
   refine asP_mk (ld1_own pA rfl (yA.len ?_))
   unfold F74.L2
   refine ⟨fun z0 z2 z7 z8 z9 B=>.slice (some ⟨cb,0,none⟩) es.length (es.length+1)=z0∧.pointer (some ⟨xb,0,none⟩)=z2∧y=z7∧((E.length:Nat):Int)=z8∧Fnd (fun b=>b=ob) A B∧(∃ o:List Int,Own B ob 2 (LI o)∧o.length=es.length)∧∃ t:Nat,z9=t∧t≤E.length,fun _ _ _ _ z9 _=>E.length-z9.toNat,
    ⟨rfl,rfl,rfl,rfl,.refl,⟨o',oo',hol'⟩,0,rfl,by omega⟩,?_⟩
   rintro z0 z2 z7 z8 z9 B ⟨rfl,rfl,rfl,rfl,fB,⟨ob',hob',hobl⟩,t,rfl,ht⟩
   have hAB:AHeap.le (G2.set ob none) B:=fB.base hA fun b o hb=>noB_get hb
   unfold F74.B6
   refine pif_cases (fun hb=>?_) fun hb=>?_
   ·have htl:t<E.length:=by have:=of_decide_eq_true hb;omega
    have he:=hEr _ (List.getElem_mem htl)
    rw [← getD_of (d:=0) htl] at he
    obtain ⟨e,hee⟩:∃ e:Nat,E.getD t 0=e:=⟨(E.getD t 0).toNat,by omega⟩
    unfold F74.B5
    refine (y0.le hAB).rd (by omega) (by omega) ?_
    rw [Int.toNat_natCast,hee]
    have xB:=fB.own xA (by omega)
    have cB:=fB.own oc' (by omega)
    unfold F74.B4
    refine asP_mk (ld1_own xB rfl (own_idx (by omega) (by omega) (ldI_own cB (n:=c'.getD e 0) (by rw [Int.toNat_natCast];simp [show e<c'.length by omega]) (own_idx (by omega) (by omega) (stK_1 hob' (by simp;omega) rfl fun B2 bt bo=>?_)))))
    rw [Int.toNat_natCast,show Value.int .i64 (c'.getD e 0)=Value.int .i64 (c'.getD e 0) from rfl,← List.map_set] at bo
    unfold F74.B3
    rw [wrap_id (by omega) (by omega)]
    refine ⟨⟨rfl,rfl,rfl,rfl,fB.trans ⟨Nat.le_of_eq bt.len.symm,fun b o hb ho=>by rw [bt.same b hb];exact ho⟩,⟨_,bo,by simpa using hobl⟩,t+1,by omega,by omega⟩,by simp;omega⟩
   ·unfold F74.B1
    exact hK' B fB ⟨ob',hob',hobl⟩
  -- the end of a round
  have fin:∀ A:AHeap,Fnd (fun b=>b=ob) G2 A→(∃ o:List Int,Own A ob 2 (LI o)∧o.length=es.length)→F46.B5 K (fun z1 z3 z12 z13 z14 G'=>(H.length=z1∧xb=z3∧x8=z12∧(((partL es n.toNat).length:Nat):Int)=z13∧Fnd (fun b=>b=ob) H5 G'∧(∃ o:List Int,Own G' ob 2 (LI o)∧o.length=es.length)∧∃ i:Nat,z14=i∧i≤(partL es n.toNat).length∧∀ j,j<i→ptL es ((partL es n.toNat).getD j []) (stN es j)≠[])∧(partL es n.toNat).length-z14.toNat<(partL es n.toNat).length-(i:Int).toNat) H.length xb ((ptL es E (stN es i)).any fun _=>true) x8 ((partL es n.toNat).length:Nat) (i:Nat) A:=by
   intro A fA hA
   have fA':=(fG.trans (.le l2')).trans fA
   have l0A:H.le A:=fA'.base l05 fun b o hb=>by have:=lt_of_get hb;omega
   unfold F46.B5
   rw [any_true]
   refine pif_cases (fun hn=>?_) fun hn=>?_
   ·have hnil:ptL es E (stN es i)=[]:=by
     cases hp:ptL es E (stN es i) with
     | nil=>rfl
     | cons a L=>rw [hp] at hn;simp at hn
    unfold F46.B4
    refine k _ A l0A fun K' hK'=>hK' _ ?_
    show (true=true↔_)
    refine ⟨fun _ hc=>?_,fun _=>rfl⟩
    have:=stN_has hg hc hlt
    rw [← hEe] at this
    exact this hnil
   ·have hne:ptL es E (stN es i)≠[]:=fun e=>by rw [e] at hn;simp at hn
    unfold F46.B3
    rw [wrap_id (by omega) (by omega)]
    refine ⟨⟨rfl,rfl,rfl,rfl,fA',hA,i+1,by omega,by omega,fun j hj=>?_⟩,by show (partL es n.toNat).length-((i:Int)+1).toNat<(partL es n.toNat).length-(i:Int).toNat;omega⟩
    by_cases e:j=i
    ·subst e;rw [← hEe];exact hne
    ·exact hall j (by omega)
  by_cases hi0:i=0
  ·have hbt:(((i:Nat):Int)==0)=true:=by rw [hi0];rfl
   rw [hbt]
   have hst:stN es i=nstTo es 3:=by unfold stN;rw [if_pos hi0]
   refine painterN_ok hg (h.le (AHeap.le_trans l0G l2')) hyo hfv fun pb cb ub tP us G3 g3 r0 r1 r2 q3 q4 q5 oP oc ou hU=>?_
   have hg3:=g3.1
   refine startN_ok (done:=[]) (call pb cb ub r0 r1 r2 _) hg (h.le le0) y0 (by omega) hEr (by omega) (by omega) q3 q4 q5 (AHeap.le_trans (noB_le _ _) g3) (by omega) (nst_prp hg (Nat.le_refl _)) hU oP oc ou ⟨o,oo2.le g3,hol⟩ (by simp;exact Nat.le_refl _) fun G4 f4 hJ4=>asB_mk ?_
   have:=fin G4 ((Fnd.le g3).trans f4) hJ4
   rw [hst] at this
   exact this
  ·have hbt:(((i:Nat):Int)==0)=false:=by rw [beq_eq_false_iff_ne];omega
   rw [hbt]
   have hst:stN es i=blank es:=by unfold stN;rw [if_neg hi0]
   refine painterG_ok hg (h.le (AHeap.le_trans l0G l2')) hyo hfv fun pb cb ub tP G3 g3 r0 r1 r2 q3 q4 q5 oP oc ou=>?_
   have hg3:=g3.1
   refine startG_ok (done:=[]) (call pb cb ub r0 r1 r2 _) hg (h.le le0) y0 (by omega) hEr (by omega) (by omega) q3 q4 q5 (AHeap.le_trans (noB_le _ _) g3) (by omega) oP oc ou ⟨o,oo2.le g3,hol⟩ (by simp;exact Nat.le_refl _) fun G4 f4 hJ4=>asB_mk ?_
   have:=fin G4 ((Fnd.le g3).trans f4) hJ4
   rw [hst] at this
   exact this
 ·have hie:i=(partL es n.toNat).length:=by have:=of_decide_eq_false hb;omega
  subst hie
  unfold F46.B1
  refine ld1_own oxG rfl (k _ G l0G fun K' hK'=>hK' _ ?_)
  show (false=true↔_)
  exact ⟨fun h=>absurd h (by simp),fun h=>absurd (stN_all hg hall) h⟩
noncomputable def hasVal (n:Int) (es:List (Int × Int)):Bool:=@decide (IsG n es∧∃ c,IsC es c) (Classical.propDecidable _)
theorem implHas_ok (h:Edges H v es) (hl:es.length≤1048576) (k:∀ G,H.le G→K (.tuple ⟨[.bool (hasVal n es),.int .i64 (if IsG n es then 0 else 1)]⟩) G) :
 AC Tryz.prog T0 17 [.agg ⟨[.int .i64 n,v]⟩] H K:=by
 apply F17.ac
 unfold F17.B5
 refine newK_f (all_iv (edges_one' h)) fun H1 l1 n1' o1=>?_
 unfold F17.B4
 refine ldI_own o1 rfl (ld1_own o1 rfl (graphCode_ok (h.le l1) hl fun H2 l2=>asI_mk ?_))
 have l12:=AHeap.le_trans l1 l2
 have o2:=o1.le l2
 simp only [if_true]
 unfold F17.B3
 by_cases hg:IsG n es
 ·rw [if_pos hg] at k ⊢
  refine pif_f rfl ?_
  unfold F17.B1
  refine ldI_own o2 rfl (ld1_own o2 rfl (first_ok (h.le l12) hg fun w G lG hw=>hw _ fun b hb=>?_))
  have e:hasVal n es=!b:=by
   unfold hasVal
   cases b with
   | true=>
    have:=hb.1 rfl
    simp only [Bool.not_true,decide_eq_false_iff_not]
    exact fun h=>this h.2
   | false=>
    have:∃ c,IsC es c:=Classical.byContradiction fun hn=>by have:=hb.2 hn;cases this
    simp only [Bool.not_false,decide_eq_true_eq]
    exact ⟨hg,this⟩
  rw [← e]
  exact k G (AHeap.le_trans l12 lG)
 ·have e:hasVal n es=false:=by
   unfold hasVal
   rw [decide_eq_false_iff_not]
   exact fun h=>hg h.1
  rw [if_neg hg] at k ⊢
  rw [e] at k
  refine pif_t rfl ?_
  unfold F17.B2
  exact k H2 l12
end Go.Proofs
namespace Go.Proofs
open Go.Abs

variable {H G:AHeap} {v u f:Value} {l m c D:List Int} {es fs:List (Int × Int)} {K:Value→AHeap→Prop} {n:Int}

theorem likeInts_ok (h:Ints H v l) (g:Ints H u l) (hl:l.length≤1000000000) (k:K (.bool true) H):AC Tryz.prog T0 10 [v,u] H K:=by
 apply F10.ac
 unfold F10.B10 F10.B9
 refine h.len (g.len (pif_f (by simp) ?_))
 unfold F10.B7 F10.L2
 refine ⟨fun x0 x1 x5 G=>v=x0∧u=x1∧H=G∧∃ i:Nat,x5=i∧i≤l.length,fun _ _ x5 _=>l.length-x5.toNat,⟨rfl,rfl,rfl,0,rfl,by omega⟩,?_⟩
 rintro x0 x1 x5 G ⟨rfl,rfl,rfl,i,rfl,hi⟩
 unfold F10.B6
 refine h.len (pif_cases (fun hb=>?_) fun hb=>?_)
 ·have hlt:i<l.length:=by have:=of_decide_eq_true hb;omega
  unfold F10.B5
  refine h.rd (by omega) (by omega) (g.rd (by omega) (by omega) (pif_f (by simp) ?_))
  unfold F10.B3
  rw [wrap_id (by omega) (by omega)]
  exact ⟨⟨rfl,rfl,rfl,i+1,by omega,by omega⟩,by simp;omega⟩
 ·unfold F10.B1
  exact k
theorem big_ok (h:Byts H v l) (k:K (.bool (decide ((l.length:Int)>4096))) H):AC Tryz.prog T0 4 [v] H K:=by
 apply F4.ac
 unfold F4.B2 F4.B1
 exact h.len k
end Go.Proofs
namespace Go.Proofs
open Go.Abs

variable {H G:AHeap} {v u f w:Value} {l m c D:List Int} {es fs:List (Int × Int)} {K:Value→AHeap→Prop} {n:Int}

theorem implIsCol_ok (h:Edges H v es) (hl:es.length≤1048576) (hc:Ints H u c) (hcl:c.length≤1048576) (k:∀ G,H.le G→K (.tuple ⟨[.bool (decide (IsG n es∧IsC es c)),.int .i64 (if IsG n es then 0 else 1)]⟩) G) :
 AC Tryz.prog T0 18 [.agg ⟨[.int .i64 n,v]⟩,u] H K:=by
 apply F18.ac
 unfold F18.B5
 refine newK_f (all_iv (edges_one' h)) fun H1 l1 n1' o1=>?_
 unfold F18.B4
 refine ldI_own o1 rfl (ld1_own o1 rfl (graphCode_ok (h.le l1) hl fun H2 l2=>asI_mk ?_))
 have l12:=AHeap.le_trans l1 l2
 have o2:=o1.le l2
 simp only [if_true]
 unfold F18.B3
 by_cases hg:IsG n es
 ·rw [if_pos hg] at k ⊢
  refine pif_f rfl ?_
  unfold F18.B1
  exact ldI_own o2 rfl (ld1_own o2 rfl (isColouring_any (h.le l12) hl (hc.le l12) hcl fun G lG=>asB_mk (k G (AHeap.le_trans l12 lG))))
 ·rw [if_neg hg] at k ⊢
  refine pif_t rfl ?_
  unfold F18.B2
  have k:=k H2 l12
  rw [decide_eq_false (fun h:IsG n es∧IsC es c=>hg h.1)] at k
  exact k
end Go.Proofs
namespace Go.Proofs
open Go.Abs

variable {H G:AHeap} {v u f x8 x13 x14:Value} {l m c D:List Int} {es fs:List (Int × Int)} {n:Int} {K:Value→AHeap→Prop}

abbrev QC30:Value→AHeap→Prop:=fun v _=>v=.bool true
theorem hasVal_iff (hg:IsG n es):hasVal n es=true↔∃ c,IsC es c:=by
 unfold hasVal
 exact ⟨fun h=>(@of_decide_eq_true _ (Classical.propDecidable _) h).2,fun h=>@decide_eq_true _ (Classical.propDecidable _) ⟨hg,h⟩⟩
theorem odVal_even (h:bmCode n es=0):Int.tmod (odVal n es) 2=0:=by
 obtain ⟨hg,_⟩:=bm_zero h
 obtain ⟨h1,_,_,h2,_⟩:=bm_facts h
 have:=oddN_even hg h1
 rw [h2,Int.tmod_eq_emod_of_nonneg (by omega)]
 omega
theorem odd_end {x3:Nat} (o3:Own G x3 26 [.int .i64 n,v]) (hE:Edges G v es) (hl:es.length≤2000) (h8:Ints G x8 (bmList n es)) :
 F3.B5 QC30 x3 (odVal n es) (bmCode n es) x8 (bmCode n es) G:=by
 have hbl:=bm_len (n:=n) hl
 unfold F3.B5
 refine pif_cases (fun hb=>?_) fun hb=>?_
 ·have hne:bmCode n es≠0:=by simpa using hb
  unfold F3.B4
  refine pif_t ?_ ?_
  ·unfold odVal;rw [if_neg hne];rfl
  ·rw [beq_self_eq_true]
 have h0:bmCode n es=0:=by simpa using hb
 obtain ⟨hg,_⟩:=bm_zero h0
 obtain ⟨_,_,_,_,hz⟩:=bm_facts h0
 unfold F3.B3
 refine ldI_own o3 rfl (ld1_own o3 rfl (implHas_ok hE (by omega) fun G1 l1=>tup2_mk (asB_mk (asI_mk ?_))))
 unfold F3.B2
 refine ldI_own (o3.le l1) rfl (ld1_own (o3.le l1) rfl (implColouring_ok (hE.le l1) (by omega) (h8.le l1) (by omega) fun w G2 l2 f2=>tup2_mk (asI_mk ?_)))
 rw [co_best h0,if_pos hg,h0]
 have hh:hasVal n es=(odVal n es==0):=by
  rw [Bool.eq_iff_iff,hasVal_iff hg,beq_iff_eq,hz]
 unfold F3.B1
 refine pif_t rfl (pif_t rfl (pif_t ?_ (pif_t (by rw [odVal_even h0];rfl) ?_)))
 ·rw [hh];cases (odVal n es==0) <;> rfl
 ·rw [hh]
  by_cases hz0:odVal n es=0
  ·rw [hz0];rfl
  ·rw [if_neg hz0,beq_eq_false_iff_ne.2 hz0];rfl
theorem odd_15 {x3 x12:Nat} {v2:Value} {n2:Int} {es2:List (Int × Int)} (o3:Own G x3 26 [.int .i64 n,v]) (hE:Edges G v es) (hl:es.length≤2000) (h8:Ints G x8 (bmList n es))
 (o12:Own G x12 26 [.int .i64 n2,v2]) (hE2:Edges G v2 es2) (hl2:es2.length≤2000) (h13:Ints G x13 l) (hll:l.length≤3000) (h14:Ints G x14 (coList n2 es2 l)) :
 F3.B15 QC30 x3 (odVal n es) (bmCode n es) x8 (bmCode n es) x12 x13 x14 (coCode n2 es2 l) G:=by
 have hcl:(coList n2 es2 l).length≤1048576:=coList_small (by omega)
 unfold F3.B15
 refine pif_cases (fun hb=>?_) fun hb=>odd_end o3 hE hl h8
 have h0:coCode n2 es2 l=0:=beq_iff_eq.1 hb
 obtain ⟨hg,hm,hc,hz⟩:=co_zero h0
 unfold F3.B14
 refine ldI_own o12 rfl (ld1_own o12 rfl (implIsCol_ok hE2 (by omega) h14 hcl fun G1 l1=>tup2_mk (asB_mk (asI_mk ?_))))
 rw [if_pos hg,decide_eq_true (And.intro hg hc)]
 have o3:=o3.le l1;have hE:=hE.le l1;have h8:=h8.le l1;have h13:=h13.le l1;have h14:=h14.le l1
 unfold F3.B13
 refine pif_f rfl (pif_f rfl ?_)
 unfold F3.B11 F3.L6
 refine ⟨fun a3 a4 a5 a8 a9 a13 a14 a27 G'=>x3=a3∧odVal n es=a4∧bmCode n es=a5∧x8=a8∧bmCode n es=a9∧x13=a13∧x14=a14∧G1=G'∧∃ i:Nat,a27=i∧i≤l.length,fun _ _ _ _ _ _ _ a27 _=>l.length-a27.toNat,⟨rfl,rfl,rfl,rfl,rfl,rfl,rfl,rfl,0,rfl,by omega⟩,?_⟩
 rintro a3 a4 a5 a8 a9 a13 a14 a27 G' ⟨rfl,rfl,rfl,rfl,rfl,rfl,rfl,rfl,i,rfl,hi⟩
 unfold F3.B10
 refine h13.len (pif_cases (fun hb=>?_) fun hb=>odd_end o3 hE hl h8)
 have hlt:i<l.length:=by have:=of_decide_eq_true hb;omega
 have hmem:l.getD i 0∈l:=by rw [getD_of hlt];exact List.getElem_mem hlt
 have hr:=hm.set.range _ hmem
 have hcl2:=hc.len
 unfold F3.B9
 refine h13.rd (by omega) (by omega) ?_
 rw [Int.toNat_natCast]
 refine h14.rd (by omega) (by omega) (pif_f ?_ ?_)
 ·rw [hz _ hmem];rfl
 ·unfold F3.B7
  rw [wrap_id (by omega) (by omega)]
  exact ⟨⟨rfl,rfl,rfl,rfl,rfl,rfl,rfl,rfl,i+1,by omega,by omega⟩,by simp;omega⟩
theorem odd_24 {x3 x12:Nat} {v2:Value} {n2:Int} {es2:List (Int × Int)} {b:List Int} (hT:Tab G) (hB:Byts G u b) (hb:b.length≤4096) (o3:Own G x3 26 [.int .i64 n,v]) (hE:Edges G v es) (hl:es.length≤2000) (h8:Ints G x8 (bmList n es))
 (o12:Own G x12 26 [.int .i64 n2,v2]) (hE2:Edges G v2 es2) (hl2:es2.length≤2000) (h13:Ints G x13 l) (hll:l.length≤3000) (h14:Ints G x14 (coList n2 es2 l)) :
 F3.B24 QC30 u x3 (odVal n es) (bmCode n es) x8 (bmCode n es) x12 x13 x14 (coCode n2 es2 l) G:=by
 unfold F3.B24
 refine drawCover_ok hB hb fun v3 n3 es3 G1 l1 hS c1=>agg2_mk (asI_mk (newK_f rfl fun G2 l2 m2 p2=>stK_f (new:=[.int .i64 n3,v3]) p2 (by simp) (mem_iv (sl_one hS)) rfl fun G3 q3 p3=>?_))
 have l3:G1.le G3:=q3.le l2 (Nat.le_refl _)
 have l03:=AHeap.le_trans l1 l3
 have hE3:=(sl_edges hS).le l3
 unfold F3.B23
 refine ldI_own p3 rfl (ld1_own p3 rfl (implCvN_ok (hT.le l03) hE3 (by omega) fun G4 l4=>tup2_mk (asI_mk (asI_mk ?_))))
 have p4:=p3.le l4
 unfold F3.B22
 refine ldI_own p4 rfl (ld1_own p4 rfl (specCvN_ok (hE3.le l4) (by omega) fun G5 l5=>tup2_mk (asI_mk (asI_mk ?_))))
 have l05:=AHeap.le_trans l03 (AHeap.le_trans l4 l5)
 have p5:=p4.le l5
 have fin:∀ G',G5.le G'→F3.B15 QC30 x3 (odVal n es) (bmCode n es) x8 (bmCode n es) x12 x13 x14 (coCode n2 es2 l) G':=fun G' hG'=>by
  have l0:=AHeap.le_trans l05 hG'
  exact odd_15 (o3.le l0) (hE.le l0) hl (h8.le l0) (o12.le l0) (hE2.le l0) hl2 (h13.le l0) hll (h14.le l0)
 unfold F3.B21
 refine pif_f (by simp) (pif_f (by simp) ?_)
 unfold F3.B19
 refine pif_cases (fun hb=>?_) fun hb=>fin G5 (AHeap.le_refl _)
 obtain ⟨hg,h3,hiff⟩:=cv_zero (beq_iff_eq.1 hb)
 unfold F3.B18
 refine ldI_own p5 rfl (ld1_own p5 rfl (implHas_ok ((hE3.le l4).le l5) (by omega) fun G6 l6=>tup2_mk (asB_mk (asI_mk ?_))))
 rw [if_pos hg]
 have hh:hasVal n3 es3=(cvVal n3 es3==3):=by
  rw [Bool.eq_iff_iff,hasVal_iff hg,beq_iff_eq,hiff]
 unfold F3.B17
 refine pif_f rfl (pif_f (decide_eq_false (by omega)) (pif_f ?_ (fin G6 l6)))
 rw [hh];cases (cvVal n3 es3==3) <;> rfl
theorem fnOddness_law (H:AHeap) (hT:Tab H) (vs:List Value) (hv:AVs T0 H [22] vs):AC Tryz.prog T0 3 vs H (fun v _=>v=.bool true):=by
 obtain ⟨v0,vs,rfl,a0,rfl⟩:=hv
 obtain ⟨l,hB,hlen⟩:=av_bytes a0
 apply F3.ac
 unfold F3.B41 F3.B40
 refine big_ok hB (asB_mk (pif_cases (fun _=>by unfold F3.B39;rfl) fun hs=>?_))
 have hl:l.length≤4096:=by have:=of_decide_eq_false hs;omega
 unfold F3.B38
 refine drawOdd_ok hB hl fun v n es G lG hS c1=>agg2_mk (asI_mk (newK_f rfl fun H2 l2 n2 o2=>stK_f (new:=[.int .i64 n,v]) o2 (by simp) (mem_iv (sl_one hS)) rfl fun H3 b3 o3=>?_))
 have l3:G.le H3:=b3.le l2 (Nat.le_refl _)
 have hE:=(sl_edges hS).le l3
 have l03:=AHeap.le_trans lG l3
 unfold F3.B37
 refine ldI_own o3 rfl (ld1_own o3 rfl (implOdd_ok (hT.le l03) hE (by omega) fun H4 l4=>tup2_mk (asI_mk (asI_mk ?_))))
 have o4:=o3.le l4;have hE4:=hE.le l4;have l04:=AHeap.le_trans l03 l4
 unfold F3.B36
 refine ldI_own o4 rfl (ld1_own o4 rfl (specOdd_ok hE4 (by omega) fun H5 l5=>tup2_mk (asI_mk (asI_mk ?_))))
 have o5:=o4.le l5;have hE5:=hE4.le l5;have l05:=AHeap.le_trans l04 l5
 unfold F3.B35
 refine pif_f (by simp) (pif_f (by simp) ?_)
 unfold F3.B33
 refine ldI_own o5 rfl (ld1_own o5 rfl (implBest_ok (hT.le l05) hE5 (by omega) fun x8 H6 l6 f6=>tup2_mk (asI_mk ?_)))
 have o6:=o5.le l6;have hE6:=hE5.le l6;have l06:=AHeap.le_trans l05 l6
 unfold F3.B32
 refine ldI_own o6 rfl (ld1_own o6 rfl (specBest_ok hE6 (by omega) fun x10 H7 l7 f7=>tup2_mk (asI_mk ?_)))
 have o7:=o6.le l7;have hE7:=hE6.le l7;have l07:=AHeap.le_trans l06 l7
 have f67:=f6.ints.le l7
 have hbl:=bm_len (n:=n) c1
 unfold F3.B31
 refine pif_f (by simp) (likeInts_ok f67 f7.ints (by omega) (asB_mk (pif_f rfl ?_)))
 unfold F3.B29
 refine drawColouring_ok (hB.le l07) hl fun v2 n2 es2 w2 la2 G2 lG2 hS2 fw2 c3 c4 _ _=>tup2_mk (agg2_mk (asI_mk (newK_f rfl fun H8 l8 n8 o8=>stK_f (new:=[.int .i64 n2,v2]) o8 (by simp) (mem_iv (sl_one hS2)) rfl fun H9 b9 o9=>?_)))
 have l9:G2.le H9:=b9.le l8 (Nat.le_refl _)
 have hE9:=(sl_edges hS2).le l9
 have hw9:=fw2.ints.le l9
 unfold F3.B28
 refine ldI_own o9 rfl (ld1_own o9 rfl (implColouring_ok hE9 (by omega) hw9 (by omega) fun x14 H10 l10 f10=>tup2_mk (asI_mk ?_)))
 have o10:=o9.le l10;have hE10:=hE9.le l10;have hw10:=hw9.le l10
 unfold F3.B27
 refine ldI_own o10 rfl (ld1_own o10 rfl (specColouring_ok hE10 (by omega) hw10 (by omega) fun x16 H11 l11 f11=>tup2_mk (asI_mk ?_)))
 have f10':=f10.ints.le l11
 have hcs:(coList n2 es2 la2).length≤1048576:=coList_small (by omega)
 have l711:=AHeap.le_trans lG2 (AHeap.le_trans l9 (AHeap.le_trans l10 l11))
 have l011:=AHeap.le_trans l07 l711
 unfold F3.B26
 refine pif_f (by simp) (likeInts_ok f10' f11.ints (by omega) (asB_mk (pif_f rfl ?_)))
 exact odd_24 (hT.le l011) (hB.le l011) hl (o7.le l711) (hE7.le l711) c1 (f67.le l711) (o10.le l11) (hE10.le l11) c3 (hw10.le l11) (by omega) f10'
end Go.Proofs
