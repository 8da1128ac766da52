/- Contracts and plain mathematics for a law, merged. -/
import Derived.Test.YtngacbdogjmpaaaGreatDoorX32Q2
set_option linter.unusedVariables false
set_option linter.unusedSimpArgs false
set_option maxRecDepth 100000
namespace Go.Proofs
open Go.Abs

variable {H G:AHeap} {v u f:Value} {l m c D:List Int} {es fs:List (Int × Int)} {K:Value→AHeap→Prop}

theorem upTo_last {q:List Int→Bool}:∀ {ls:List (List Int)} {l:List Int},ls.find? q=some l→(upTo q ls).getLast?=some l
 | [],l,h=>by cases h
 | x::ls,l,h=>by
  rw [List.find?_cons] at h
  unfold upTo
  cases hx:q x with
  | true=>rw [hx] at h;cases h;simp
  | false=>
   rw [hx] at h
   have:=upTo_last h
   simp only [Bool.false_eq_true,if_false]
   rw [List.getLast?_cons,this];rfl
theorem find_any {q:List Int→Bool} {ls:List (List Int)}:ls.any q=(ls.find? q).isSome:=by
 rw [Bool.eq_iff_iff,List.any_eq_true,List.find?_isSome]
noncomputable def wkOf (es:List (Int × Int)):List Int:=weakF es (es.length+1) 0
theorem weakF_some {l:List Int} {f k:Nat} (h:(cmb es.length k 0).find? (wkQ es)=some l):weakF es (f+1) k=l:=by
 rw [weakF,h]
theorem weakF_none {f k:Nat} (h:(cmb es.length k 0).find? (wkQ es)=none):weakF es (f+1) k=weakF es f (k+1):=by
 rw [weakF,h]
theorem weak_full:((cmb es.length es.length 0).find? (wkQ es)).isSome=true:=by
 obtain ⟨l,h1,h2⟩:=weak_some es
 rw [List.find?_isSome];exact ⟨l,h1,h2⟩
theorem weakF_mem:∀ (f k:Nat),k+f=es.length+1→(∀ l,(cmb es.length es.length 0).find? (wkQ es)=some l→True)→k≤es.length→∃ j,j≤es.length∧weakF es f k∈cmb es.length j 0
 | 0,k,h,_,hk=>absurd h (by omega)
 | f+1,k,h,hh,hk=>by
  cases hx:(cmb es.length k 0).find? (wkQ es) with
  | some l=>rw [weakF_some hx];exact ⟨k,hk,List.mem_of_find?_eq_some hx⟩
  | none=>
   have:k≠es.length:=fun e=>by
    have:=weak_full (es:=es)
    rw [← e] at this
    rw [e] at hx
    rw [e,hx] at this;cases this
   rw [weakF_none hx]
   exact weakF_mem f (k+1) (by omega) hh (by omega)
theorem wkOf_mem:∃ j,j≤es.length∧wkOf es∈cmb es.length j 0:=weakF_mem _ 0 (by omega) (fun _ _=>trivial) (by omega)
theorem wkOf_isS:IsS (wkOf es) es.length:=by
 obtain ⟨j,_,h⟩:=wkOf_mem (es:=es)
 exact (mem_cmb h).2.1
theorem weak1_ok {n:Int} {pb:Nat} {tp:TypeId} {x1:Nat} {x:Value} (hg:IsG n es) {H0:AHeap} (he:Edges H0 v es) (hs:IsS l es.length) (hx1:H0.length≤x1) (h0:H0.le G) (o1:Own G pb tp [.int .i64 n,v]) (hp:pb≠x1) (o3:Own G x1 83 [x])
 (k:∀ G',Two x1 x1 G G'→Own G' x1 83 [.int .u64 (setN l:Nat)]→K (.bool (wkQ es l)) G') :
 AC Tryz.prog T0 137 [.int .u64 (setN l:Nat),ptrV x1,ptrV pb] G K:=by
 apply F137.ac
 unfold F137.B3 F137.B2
 refine asP_mk (stK_f o3 (by simp) (by simp [Value.oneCell']) rfl fun G2 b2 o2=>?_)
 have o12:=b2.own o1 hp
 have h02:H0.le G2:=b2.le h0 hx1
 unfold F137.B1
 refine asP_mk (ldI_own o12 rfl (ld1_own o12 rfl (isPaintable_ok hg (he.le h02) hs fun G3 l3=>asB_mk ?_)))
 exact k G3 ((Two.butC b2).trans (.le l3)) (by simpa using o2.le l3)
theorem weak_ok {n:Int} (hg:IsG n es) (he:Edges H v es) (k:∀ G,H.le G→K (.int .u64 (setN (wkOf es):Nat)) G) :
 AC Tryz.prog T0 73 [.agg ⟨[.int .i64 n,v]⟩] H K:=by
 have n0:=hg.ed.lo;have n1:=hg.ed.hi
 have h30:es.length≤30:=by have:=hg.ed.len;omega
 apply F73.ac
 unfold F73.B7
 refine newK_f (all_iv (edges_one' he)) fun H1 l1 n1' o1=>?_
 unfold F73.B6
 refine newK_f rfl fun H2 l2 n2' o2=>?_
 obtain ⟨x,hx⟩:∃ x,x=H1.length:=⟨_,rfl⟩
 rw [← hx] at o2 ⊢
 have l12:=AHeap.le_trans l1 l2
 have o12:=o1.le l2
 unfold F73.B5 F73.L1
 refine ⟨fun x1 x3 x4 G=>H.length=x1∧x=x3∧Two x x H2 G∧∃ (s:Nat) (i:Nat),Own G x 83 [.int .u64 (s:Nat)]∧x4=i∧i≤es.length∧weakF es (es.length+1-i) i=wkOf es,fun _ _ x4 _=>es.length-x4.toNat,⟨rfl,rfl,.le (AHeap.le_refl _),0,0,o2,rfl,by omega,rfl⟩,?_⟩
 rintro x1 x3 x4 G ⟨rfl,rfl,tG,s,i,oG,rfl,hi,hw⟩
 have hlx:H.length<x:=by omega
 have lG:H.le G:=tG.base l12 (by omega) (by omega)
 have o1G:Own G H.length _ [.int .i64 n,v]:=tG.old _ _ (by omega) (by omega) o12
 unfold F73.B4
 refine ld1_own o1G rfl (lengthE_ok (he.le lG) (asI_mk ?_))
 have hxG:x<G.length:=lt_of_get oG
 refine choose_ok (m:=es.length) (n:=i) (by omega) (by omega) rfl
  (J:=fun B done G'=>Two x x B G'∧B.length≤G'.length∧∃ s:Nat,Own G' x 83 [.int .u64 (s:Nat)]∧∀ l,done.getLast?=some l→s=setN l) (q:=wkQ es) ?_ ?_ ?_ ?_
 ·intro B hB _
  exact ⟨.le (AHeap.le_refl _),Nat.le_refl _,s,oG.le hB,fun l h=>by cases h⟩
 ·intro B done G' hJ b o hb ho
  exact hJ.1.old b o (by omega) (by omega) ho
 ·intro B done l G' hB hBl ⟨hJ1,hJ2,s,oc,hs⟩ hlm hdn K hK
  refine callV_mk ?_
  refine weak1_ok hg (H0:=H) he (mem_cmb hlm).2.1 (by omega) (hJ1.base (AHeap.le_trans lG hB) (by omega) (by omega)) (hJ1.old _ _ (by omega) (by omega) (o1G.le hB)) (by omega) oc fun G2 t2 o2=>hK G2 ⟨hJ1.trans t2,Nat.le_trans hJ2 t2.len,_,o2,fun l' h=>by simp at h;rw [h]⟩
 ·intro B G' hB hBl ⟨hJ1,hJ2,s,oc,hs⟩
  have tG':Two x x H2 G':=tG.trans ((Two.le hB).trans hJ1)
  refine asB_mk (pif_cases (fun hb=>?_) fun hb=>?_)
  ·rw [find_any] at hb
   obtain ⟨l,hl⟩:=Option.isSome_iff_exists.1 hb
   unfold F73.B3
   refine ldI_own oc rfl ?_
   rw [hs l (upTo_last hl)]
   have:wkOf es=l:=by
    rw [← hw,show es.length+1-i=(es.length-i)+1 by omega,weakF_some hl]
   rw [← this]
   exact k G' (tG'.base l12 (by omega) (by omega))
  ·rw [find_any] at hb
   have hnone:(cmb es.length i 0).find? (wkQ es)=none:=by
    cases hx:(cmb es.length i 0).find? (wkQ es) with
    | none=>rfl
    | some l=>rw [hx] at hb;cases hb
   have hne:i≠es.length:=fun e=>by
    have:=weak_full (es:=es)
    rw [e] at hb
    rw [this] at hb;cases hb
   unfold F73.B2
   rw [wrap_id (by omega) (by omega)]
   refine ⟨⟨rfl,rfl,tG',s,i+1,oc,by omega,by omega,?_⟩,by show es.length-((i:Int)+1).toNat<es.length-(i:Int).toNat;omega⟩
   rw [← hw,show es.length+1-i=(es.length-i)+1 by omega,weakF_none hnone]
   congr 1;omega
noncomputable def smCode (n:Int) (es:List (Int × Int)) (x:Int):Int:=if IsG n es then (if x<n then 3 else 0) else 1
theorem smallCode_ok {n x:Int} (h:Edges H v es) (hl:es.length≤1048576) (k:∀ G,H.le G→K (.int .i64 (smCode n es x)) G):AC Tryz.prog T0 72 [.agg ⟨[.int .i64 n,v]⟩,.bool true,.int .i64 x] H K:=by
 apply F72.ac
 unfold F72.B7
 refine newK_f (all_iv (edges_one' h)) fun H1 l1 n1' o1=>?_
 unfold F72.B6
 refine ldI_own o1 rfl (ld1_own o1 rfl (graphCode_ok (b:=true) (h.le l1) hl fun H2 l2=>asI_mk ?_))
 have l12:=AHeap.le_trans l1 l2
 have k:=k H2 l12
 unfold smCode at k
 unfold F72.B5
 by_cases hg:IsG n es
 ·rw [if_pos hg] at k ⊢
  rw [if_pos rfl]
  refine pif_f rfl ?_
  unfold F72.B3
  refine ldI_own (o1.le l2) rfl (pif_cases (fun hb=>?_) fun hb=>?_)
  ·unfold F72.B2
   rw [if_pos (of_decide_eq_true hb)] at k
   exact k
  ·unfold F72.B1
   rw [if_neg (of_decide_eq_false hb)] at k
   exact k
 ·rw [if_neg hg] at k ⊢
  refine pif_t rfl ?_
  unfold F72.B4
  exact k
end Go.Proofs
namespace Go.Proofs
open Go.Abs

variable {H G:AHeap} {v u w f:Value} {l:List Int} {es fs:List (Int × Int)} {K:Value→AHeap→Prop} {n k d:Int} {m:Nat}

def Cl2 (H:AHeap) (f:Value) (x y:Int) (b:Bool):Prop:=∀ G,H.le G→∀ K:Value→AHeap→Prop,(∀ G',G.le G'→K (.bool b) G')→callV Tryz.prog T0 f [.int .i64 x,.int .i64 y] G K
def NrR (es:List (Int × Int)) (G:AHeap) (v:Value):Prop:=∃ (b:Nat) (vs:List Value),v=.slice (some ⟨b,0,none⟩) es.length (es.length+1)∧Own G b 42 vs∧vs.length=es.length∧∀ i,i<es.length→Fresh 0 G (vs.getD i .nilFunc) 2 1 (LI (filtB (nrB es i) i))
theorem NrR.le (h:NrR es H v) (hl:H.le G):NrR es G v:=by
 obtain ⟨b,vs,h1,h2,h3,h4⟩:=h
 exact ⟨b,vs,h1,h2.le hl,h3,fun i hi=>(h4 i hi).le hl⟩
theorem NrR.one (h:NrR es H v):v.oneCell'=true:=by
 obtain ⟨b,vs,rfl,_⟩:=h;rfl
theorem NrR.row (h:NrR es H v) {i:Nat} (hi:i<es.length) {K:Value→Prop} (k:∀ w,Ints H w (filtB (nrB es i) i)→K w):idxK v (i:Int) 1 (fun b o=>ld1 H b o K):=by
 obtain ⟨b,vs,rfl,h2,h3,h4⟩:=h
 refine own_idx (by omega) (by omega) (ld1_own h2 ?_ (k _ (h4 i hi).ints))
 rw [Int.toNat_natCast,List.getElem?_eq_getElem (by omega),getD_of (by omega)]
theorem nrL_len (es:List (Int × Int)) (i:Nat):(filtB (nrB es i) i).length≤i:=filtB_length _ _
theorem rep_nilR (n:Nat):(List.replicate n [Value.slice none 0 0]).flatten=List.replicate n (.slice none 0 0):=by
 induction n with
 | zero=>rfl
 | succ n ih=>rw [List.replicate_succ,List.flatten_cons,ih,List.replicate_succ];rfl
theorem neighbours_ok (hl:es.length≤1000) (hf:∀ i j,i<es.length→j<i→Cl2 H f (i:Int) (j:Int) (nrB es i j)) (k:∀ v' G,H.le G→NrR es G v'→K v' G) :
 AC Tryz.prog T0 148 [.int .i64 (es.length:Nat),f] H K:=by
 apply F148.ac
 unfold F148.B15 F148.B14
 refine mkR_int (by omega) (by omega) (by decide) fun H1 l1 n1 o1=>?_
 rw [Int.toNat_natCast,rep_nilR] at o1
 rw [Int.toNat_natCast]
 obtain ⟨b,hb⟩:∃ b,b=H.length:=⟨_,rfl⟩
 rw [← hb] at o1 ⊢
 unfold F148.B13 F148.L2
 refine ⟨fun x1 x5 x10 x11 G=>f=x1∧.slice (some ⟨b,0,none⟩) es.length (es.length+1)=x5∧(es.length:Int)=x10∧H.le G∧∃ i:Nat,x11=i∧i≤es.length∧∃ vs,Own G b 42 vs∧vs.length=es.length∧(∀ j,j<i→Fresh (b+1) G (vs.getD j .nilFunc) 2 1 (LI (filtB (nrB es j) j)))∧∀ j,i≤j→j<es.length→vs.getD j .nilFunc=.slice none 0 0,
  fun _ _ _ x11 _=>es.length-x11.toNat,⟨rfl,rfl,rfl,l1,0,rfl,by omega,_,o1,by simp,fun j hj=>absurd hj (by omega),fun j _ hj=>by simp [List.getD,List.getElem?_replicate,hj]⟩,?_⟩
 rintro x1 x5 x10 x11 G ⟨rfl,rfl,rfl,lG,i,rfl,hi,vs,ov,hvl,hold,hnil⟩
 unfold F148.B12
 refine pif_cases (fun hc=>?_) fun hc=>?_
 ·have hil:i<es.length:=by have:=of_decide_eq_true hc;omega
  have hbG:=ov.lt
  unfold F148.B11 F148.B10 F148.L4
  refine ⟨fun x1 x5 x6 x10 x11 x14 x15 G'=>f=x1∧.slice (some ⟨b,0,none⟩) es.length (es.length+1)=x5∧(i:Int)=x6∧(es.length:Int)=x10∧(i:Int)=x11∧(i:Int)=x14∧H.le G'∧G.length≤G'.length∧∃ j:Nat,x15=j∧j≤i∧∃ vs,Own G' b 42 vs∧vs.length=es.length∧(∀ q,q<i→Fresh (b+1) G' (vs.getD q .nilFunc) 2 1 (LI (filtB (nrB es q) q))∧∀ z,bk (vs.getD q .nilFunc)=some z→z<G.length)∧Fresh G.length G' (vs.getD i .nilFunc) 2 1 (LI (filtB (nrB es i) j))∧∀ q,i<q→q<es.length→vs.getD q .nilFunc=.slice none 0 0,
   fun _ _ _ _ _ _ x15 _=>i-x15.toNat,⟨rfl,rfl,rfl,rfl,rfl,rfl,lG,Nat.le_refl _,0,rfl,by omega,vs,ov,hvl,fun q hq=>⟨hold q hq,fun z hz=>((hold q hq).bk_lt hz).2⟩,?_,fun q hq hq2=>hnil q (by omega) hq2⟩,?_⟩
  ·rw [hnil i (Nat.le_refl _) hil];exact .inl ⟨rfl,.inl rfl⟩
  clear ov hvl hold hnil
  rintro x1 x5 x6 x10 x11 x14 x15 G' ⟨rfl,rfl,rfl,rfl,rfl,rfl,lG',hGl,j,rfl,hj,vs,ov,hvl,hold,hcur,hnil⟩
  unfold F148.B9
  refine pif_cases (fun hc=>?_) fun hc=>?_
  ·have hji:j<i:=by have:=of_decide_eq_true hc;omega
   unfold F148.B8 F148.B7
   refine hf i j hil hji G' lG' _ fun G2 l2=>asB_mk ?_
   have lG2:=AHeap.le_trans lG' l2
   have hg2:=l2.1
   have ov:=ov.le l2
   have hcur:=hcur.le l2
   have hold:∀ q,q<i→Fresh (b+1) G2 (vs.getD q .nilFunc) 2 1 (LI (filtB (nrB es q) q))∧∀ z,bk (vs.getD q .nilFunc)=some z→z<G.length:=fun q hq=>⟨(hold q hq).1.le l2,(hold q hq).2⟩
   refine pif_cases (fun hn=>?_) fun hn=>?_
   ·have hfl:=nrL_len es i
    have hfj:=filtB_length (nrB es i) j
    unfold F148.B6
    refine own_idx (by omega) (by omega) (ld1_own ov (u:=vs.getD i .nilFunc) (by rw [Int.toNat_natCast,List.getElem?_eq_getElem (by omega),getD_of (by omega)]) ?_)
    refine hcur.sl.pushN E_int (by decide) (by omega) (n:=1) (ys:=[.int .i64 (j:Int)]) rfl rfl (by simp;omega) (by simp) fun w' G3 k3 ot3 nb3 f3=>?_
    have hk3:=k3.len
    have ov3:=k3.own ov hbG
    have f3':Fresh G.length G3 w' 2 1 (LI (filtB (nrB es i) (j+1))):=by
     rw [filtB_succ,hn]
     simpa using f3
    refine own_idx (by omega) (by omega) (pif_t (ints_one f3'.ints) (stK_1 ov3 (by rw [Int.toNat_natCast];omega) (ints_one f3'.ints) fun G4 b4 o4=>?_))
    rw [Int.toNat_natCast] at o4
    unfold F148.B5
    rw [wrap_id (by omega) (by omega)]
    have hb4:=b4.len
    have gs:∀ q,q≠i→(vs.set i w').getD q .nilFunc=vs.getD q .nilFunc:=fun q hq=>by
     simp only [List.getD,List.getElem?_set]
     rw [if_neg (fun e=>hq e.symm)]
    have gi:(vs.set i w').getD i .nilFunc=w':=by
     simp only [List.getD,List.getElem?_set]
     simp [show i<vs.length by omega]
    refine ⟨⟨rfl,rfl,rfl,rfl,rfl,rfl,b4.le (k3.le lG2 (by have:=lG.1;omega)) (by omega),by omega,j+1,by omega,by omega,vs.set i w',o4,by simpa using hvl,fun q hq=>?_,?_,fun q hq hq2=>?_⟩,by simp;omega⟩
    ·rw [gs q (by omega)]
     refine ⟨?_,(hold q hq).2⟩
     exact ((hold q hq).1.keep k3 fun z _ e=>(hold q hq).2 z (by rw [e];rfl)).but b4 (Nat.lt_succ_self _)
    ·rw [gi];exact f3'.but b4 hbG
    ·rw [gs q (by omega)];exact hnil q hq hq2
   ·unfold F148.B5
    rw [wrap_id (by omega) (by omega)]
    refine ⟨⟨rfl,rfl,rfl,rfl,rfl,rfl,lG2,by omega,j+1,by omega,by omega,vs,ov,hvl,hold,?_,hnil⟩,by simp;omega⟩
    rw [filtB_succ,hn]
    simpa using hcur
  ·have hji:j=i:=by have:=of_decide_eq_false hc;omega
   subst hji
   unfold F148.B3
   rw [wrap_id (by omega) (by omega)]
   refine ⟨⟨rfl,rfl,rfl,lG',j+1,by omega,by omega,vs,ov,hvl,fun q hq=>?_,fun q hq hq2=>hnil q (by omega) hq2⟩,by simp;omega⟩
   by_cases e:q=j
   ·subst e;exact hcur.less hbG
   ·exact (hold q (by omega)).1
 ·have hil:i=es.length:=by have:=of_decide_eq_false hc;omega
  subst hil
  unfold F148.B1
  exact k _ G lG ⟨b,vs,rfl,ov,hvl,fun i hi=>(hold i hi).less (Nat.zero_le _)⟩
theorem nearEdges_ok (h:Edges H v es) (hl:es.length≤1000) (k:∀ v' G,H.le G→NrR es G v'→K v' G):AC Tryz.prog T0 84 [.agg ⟨[.int .i64 n,v]⟩] H K:=by
 apply F84.ac
 unfold F84.B2
 refine newK_f (all_iv (edges_one' h)) fun H1 l1 n1 o1=>?_
 have h1:=h.le l1
 unfold F84.B1
 refine ld1_own o1 rfl (ldI_own o1 rfl (ld1_own o1 rfl (lengthE_ok h1 (asI_mk ⟨AHeap.le_refl _,neighbours_ok hl (fun i j hi hj G lG K' hK=>callV_mk ?_) fun v' G lG hR=>k v' G (AHeap.le_trans l1 lG) hR⟩))))
 exact isNear_ok (h1.le lG) hi (by omega) hK
def CirF (H:AHeap) (f:Value) (k d:Int):Prop:=∀ x y:Int,0≤x→x≤100→0≤y→y≤100→Cl2 H f x y (!apB k d x y)
theorem circle_ok (hk:-1000≤k∧k≤1000) (hd:-1000≤d∧d≤1000) (kk:∀ f G,H.le G→f.oneCell'=true→CirF G f k d→K f G):AC Tryz.prog T0 85 [.int .i64 k,.int .i64 d] H K:=by
 apply F85.ac
 unfold F85.B2
 refine newK_f rfl fun H1 l1 n1 o1=>newK_f rfl fun H2 l2 n2 o2=>?_
 unfold F85.B1
 have o1:=o1.le l2
 refine kk _ H2 (AHeap.le_trans l1 l2) rfl fun x y x0 x1 y0 y1 G lG K' hK=>callV_mk ?_
 apply F150.ac
 unfold F150.B2 F150.B1
 rw [wrap_id (x:=y-x) (by omega) (by omega),wrap_id (x:=x-y) (by omega) (by omega)]
 have e:(if y-x>x-y then y-x else x-y)=farI x y:=rfl
 rw [e]
 have hK:=hK G (AHeap.le_refl _)
 unfold apB at hK
 refine asP_mk (ldI_own (o2.le lG) rfl (pif_cases (fun hc=>?_) fun hc=>asP_mk (ldI_own (o1.le lG) rfl (asP_mk (ldI_own (o2.le lG) rfl ?_)))))
 ·have hc:=of_decide_eq_true hc
  rw [decide_eq_false (by omega),Bool.false_and] at hK
  exact hK
 ·have hc:=of_decide_eq_false hc
  rw [decide_eq_true (by omega),Bool.true_and] at hK
  rw [wrap_id (by omega) (by omega)]
  have e2:decide (farI x y>k-d)=!decide (farI x y≤k-d):=by
   by_cases h:farI x y≤k-d
   ·rw [decide_eq_true h,decide_eq_false (by omega)];rfl
   ·rw [decide_eq_false h,decide_eq_true (by omega)];rfl
  rw [e2];exact hK
def cirK (k d:Int):Bool:=decide (2≤k∧k≤14)&&decide (1≤d∧d≤Int.tdiv k 2)
theorem cirK_iff:cirK k d=true↔(2≤k∧k≤14)∧1≤d∧d≤Int.tdiv k 2:=by
 unfold cirK
 rw [Bool.and_eq_true,decide_eq_true_iff,decide_eq_true_iff]
theorem isCircle_ok (kk:K (.bool (cirK k d)) H):AC Tryz.prog T0 82 [.int .i64 k,.int .i64 d] H K:=by
 apply F82.ac
 unfold F82.B2 F82.B1
 unfold cirK at kk
 refine within_ok (asB_mk (pif_cases (fun h=>?_) fun h=>?_))
 ·have h1:=of_decide_eq_true h
  have:0≤Int.tdiv k 2∧Int.tdiv k 2≤7:=by
   rw [Int.tdiv_eq_ediv_of_nonneg (by omega)];omega
  rw [wrap_id (by omega) (by omega)]
  rw [h,Bool.true_and] at kk
  exact within_ok (asB_mk kk)
 ·rw [h,Bool.false_and] at kk
  exact kk
theorem l08Numbers_ok (kk:K (.bool (cirK k d)) H):AC Tryz.prog T0 86 [.int .i64 k,.int .i64 d] H K:=by
 apply F86.ac
 unfold F86.B2 F86.B1
 unfold cirK at kk
 refine l01In_ok (asB_mk (pif_cases (fun h=>?_) fun h=>?_))
 ·have h1:=of_decide_eq_true h
  have:0≤Int.tdiv k 2∧Int.tdiv k 2≤7:=by
   rw [Int.tdiv_eq_ediv_of_nonneg (by omega)];omega
  rw [wrap_id (by omega) (by omega)]
  rw [h,Bool.true_and] at kk
  exact l01In_ok (asB_mk kk)
 ·rw [h,Bool.false_and] at kk
  exact kk
theorem l08Apart_ok {x y:Int} (hk:-1000≤k∧k≤1000) (hd:-1000≤d∧d≤1000) (hx:0≤x∧x≤100) (hy:0≤y∧y≤100) (kk:K (.bool (apB k d x y)) H):AC Tryz.prog T0 93 [.int .i64 k,.int .i64 d,.int .i64 x,.int .i64 y] H K:=by
 apply F93.ac
 unfold F93.B3 F93.B2
 rw [wrap_id (x:=y-x) (by omega) (by omega),wrap_id (x:=x-y) (by omega) (by omega)]
 have e:(if y-x>x-y then y-x else x-y)=farI x y:=rfl
 rw [e]
 unfold apB at kk
 unfold F93.B1
 refine pif_cases (fun h=>?_) fun h=>?_
 ·rw [h,Bool.true_and] at kk
  rw [wrap_id (by omega) (by omega)]
  exact kk
 ·rw [h,Bool.false_and] at kk
  exact kk
theorem near_any {i:Nat} {x:Int} (c:List Int):(filtB (nrB es i) i).any (fun y=>!apB k d x (c.getD y.toNat 0))=!fitC es k d c i x:=by
 rw [Bool.eq_iff_iff,List.any_eq_true,Bool.not_eq_true',← Bool.not_eq_true,fitC_iff]
 constructor
 ·rintro ⟨y,hy,h⟩ hf
  obtain ⟨j,rfl,hj,hn⟩:=mem_filtB.1 hy
  rw [Int.toNat_natCast] at h
  rw [hf j hj (nrB_iff.1 hn)] at h
  cases h
 ·intro h
  apply Classical.byContradiction
  intro hn
  refine h fun f hf hs=>?_
  cases hb:apB k d x (c.getD f 0) with
  | true=>rfl
  | false=>exact absurd ⟨(f:Int),mem_filtB.2 ⟨f,rfl,hf,nrB_iff.2 hs⟩,by rw [Int.toNat_natCast,hb];rfl⟩ hn
def CiTo (es:List (Int × Int)) (k d:Int) (l:List Int) (i:Nat):Prop:=∀ j,j<i→(0≤l.getD j 0∧l.getD j 0≤k-1)∧fitC es k d l j (l.getD j 0)=true
theorem ciTo_iff (hl:l.length=es.length):CiTo es k d l es.length↔IsCi es k d l es.length:=by
 constructor
 ·intro h
  exact ⟨hl,fun j hj=>(h j hj).1,fun e he f hf hs=>fitC_iff.1 (h e he).2 f hf hs⟩
 ·intro h j hj
  exact ⟨h.rng j hj,fitC_iff.2 fun f hf hs=>h.ok j hj f hf hs⟩
theorem isProper_ok (hl:l.length=es.length) (he:es.length≤1000) (hk:2≤k∧k≤14) (hs:Ints H v l) (hR:NrR es H u) (hC:CirF H f k d) (hf:f.oneCell'=true) (kk:∀ G (b:Bool),H.le G→(b=true↔IsCi es k d l es.length)→K (.bool b) G) :
 AC Tryz.prog T0 90 [v,.int .i64 k,u,f] H K:=by
 have hv:v.oneCell'=true:=ints_one hs
 apply F90.ac
 unfold F90.B9
 refine pif_t hv (newK_f (by rw [List.all_cons,hv];rfl) fun H1 l1 n1 o1=>pif_t hf (newK_f (by rw [List.all_cons,hf];rfl) fun H2 l2 n2 o2=>?_))
 have o1:=o1.le l2
 have l02:=AHeap.le_trans l1 l2
 unfold F90.B8
 refine ld1_own o1 rfl ((hs.le l02).len ?_)
 unfold F90.L2
 refine ⟨fun x1 x2 x4 x7 x11 x12 x13 G=>k=x1∧u=x2∧H.length=x4∧H1.length=x7∧v=x11∧(l.length:Int)=x12∧H2.le G∧∃ i:Nat,x13=i∧i≤l.length∧CiTo es k d l i,fun _ _ _ _ _ _ x13 _=>l.length-x13.toNat,⟨rfl,rfl,rfl,rfl,rfl,rfl,AHeap.le_refl _,0,rfl,by omega,fun j hj=>absurd hj (by omega)⟩,?_⟩
 rintro x1 x2 x4 x7 x11 x12 x13 G ⟨rfl,rfl,rfl,rfl,rfl,rfl,lG,i,rfl,hi,hci⟩
 have l0G:=AHeap.le_trans l02 lG
 unfold F90.B7
 refine pif_cases (fun hc=>?_) fun hc=>?_
 ·have hil:i<l.length:=by have:=of_decide_eq_true hc;omega
  unfold F90.B6
  refine (hs.le l0G).rd (by omega) (by omega) (newK_f rfl fun G1 m1 q1 p1=>stK_f (new:=[.int .i64 (l.getD i 0)]) p1 (by simp) (by simp [Value.oneCell']) rfl fun G2 b2 p2=>?_)
  have m2:G.le G2:=b2.le m1 (Nat.le_refl _)
  have l0:=AHeap.le_trans l0G m2
  have lo:=AHeap.le_trans lG m2
  have no:∀ G',H.le G'→¬ IsCi es k d l es.length→F90.B4 K (fun x1 x2 x4 x7 x11 x12 x13 G=>(k=x1∧u=x2∧H.length=x4∧H1.length=x7∧v=x11∧(l.length:Int)=x12∧H2.le G∧∃ i:Nat,x13=i∧i≤l.length∧CiTo es k d l i)∧l.length-x13.toNat<l.length-(i:Int).toNat) G':=fun G' hG' hn=>by
   unfold F90.B4
   exact kk G' false hG' ⟨fun h=>absurd h (by decide),fun h=>absurd h hn⟩
  unfold F90.B5
  refine ldI_own p2 rfl ?_
  rw [wrap_id (x:=k-1) (by omega) (by omega)]
  refine within_ok (asB_mk (pif_cases (fun hb=>no G2 l0 fun h=>?_) fun hb=>?_))
  ·rw [Bool.not_eq_true'] at hb
   exact of_decide_eq_false hb (h.rng i (by omega))
  rw [Bool.not_eq_false'] at hb
  have hr:=of_decide_eq_true hb
  have hfl:=nrL_len es i
  refine (hR.le l0).row (by omega) fun w hw=>contains64_ok (q:=fun y=>!apB k d (l.getD i 0) (l.getD y.toNat 0)) hw (by omega) ?_ ?_
  ·intro y hy G3 l3 K' hK
   obtain ⟨j,rfl,hj,_⟩:=mem_filtB.1 hy
   have hrj:=(hci j hj).1
   rw [Int.toNat_natCast] at hK
   refine callV_mk ?_
   apply F151.ac
   unfold F151.B2 F151.B1
   have lo3:=AHeap.le_trans lo l3
   have l03:=AHeap.le_trans l0 l3
   refine asP_mk (ld1_own (o2.le lo3) rfl (asP_mk (ldI_own (p2.le l3) rfl (asP_mk (ld1_own (o1.le lo3) rfl ((hs.le l03).rd (by omega) (by omega) ?_))))))
   rw [Int.toNat_natCast]
   exact hC (l.getD i 0) (l.getD j 0) (by omega) (by omega) (by omega) (by omega) G3 l03 _ fun G4 l4=>asB_mk (hK G4 l4)
  ·intro G3 l3
   rw [near_any]
   refine asB_mk (pif_cases (fun hb=>no G3 (AHeap.le_trans l0 l3) fun h=>?_) fun hb=>?_)
   ·rw [Bool.not_eq_true',← Bool.not_eq_true,fitC_iff] at hb
    exact hb fun f hf hs=>h.ok i (by omega) f hf hs
   ·rw [Bool.not_eq_false'] at hb
    unfold F90.B3
    rw [wrap_id (by omega) (by omega)]
    refine ⟨⟨rfl,rfl,rfl,rfl,rfl,rfl,AHeap.le_trans lo l3,i+1,by omega,by omega,fun j hj=>?_⟩,by simp;omega⟩
    by_cases e:j=i
    ·subst e;exact ⟨hr,hb⟩
    ·exact hci j (by omega)
 ·have hil:i=l.length:=by have:=of_decide_eq_false hc;omega
  subst hil
  unfold F90.B1
  rw [hl] at hci
  exact kk G true l0G ⟨fun _=>(ciTo_iff hl).1 hci,fun _=>rfl⟩
noncomputable def icCode (n:Int) (es:List (Int × Int)) (k d:Int) (l:List Int):Int:=if IsG n es then (if cirK k d&&decide (l.length=es.length) then 0 else 2) else 1
noncomputable def icVal (n:Int) (es:List (Int × Int)) (k d:Int) (l:List Int):Bool:=@decide (icCode n es k d l=0∧IsCi es k d l es.length) (Classical.propDecidable _)
theorem ic_zero (h:icCode n es k d l=0):IsG n es∧cirK k d=true∧l.length=es.length:=by
 unfold icCode at h
 by_cases hg:IsG n es
 ·rw [if_pos hg] at h
  by_cases hr:(cirK k d&&decide (l.length=es.length))=true
  ·rw [Bool.and_eq_true,decide_eq_true_iff] at hr
   exact ⟨hg,hr⟩
  ·rw [if_neg hr] at h;cases h
 ·rw [if_neg hg] at h;cases h
theorem icVal_of {b:Bool} (h0:icCode n es k d l=0) (hb:b=true↔IsCi es k d l es.length):icVal n es k d l=b:=by
 unfold icVal
 rw [Bool.eq_iff_iff,hb]
 exact ⟨fun h=>(@of_decide_eq_true _ (Classical.propDecidable _) h).2,fun h=>@decide_eq_true _ (Classical.propDecidable _) ⟨h0,h⟩⟩
theorem icVal_no (h0:icCode n es k d l≠0):icVal n es k d l=false:=by
 unfold icVal
 rw [← Bool.not_eq_true]
 exact fun h=>h0 (@of_decide_eq_true _ (Classical.propDecidable _) h).1
theorem implIsCir_ok (h:Edges H v es) (hl:es.length≤1048576) (hs:Ints H u l) (kk:∀ G,H.le G→K (.tuple ⟨[.bool (icVal n es k d l),.int .i64 (icCode n es k d l)]⟩) G) :
 AC Tryz.prog T0 29 [.agg ⟨[.int .i64 n,v]⟩,.int .i64 k,.int .i64 d,u] H K:=by
 apply F29.ac
 unfold F29.B5
 refine newK_f (all_iv (edges_one' h)) fun H1 l1 n1 o1=>?_
 have h1:=h.le l1
 have body:∀ G,H1.le G→F29.B3 K k d u H.length (icCode n es k d l) G:=fun G hG=>by
  unfold F29.B3
  refine pif_cases (fun hc=>?_) fun hc=>?_
  ·have hne:icCode n es k d l≠0:=by simpa using hc
   have:=kk G (AHeap.le_trans l1 hG)
   rw [icVal_no hne] at this
   unfold F29.B2
   exact this
  ·have h0:icCode n es k d l=0:=by simpa using hc
   obtain ⟨hg,hk,hll⟩:=ic_zero h0
   obtain ⟨hk1,hd1,hd2⟩:=cirK_iff.1 hk
   have hd3:Int.tdiv k 2≤7:=by rw [Int.tdiv_eq_ediv_of_nonneg (by omega)];omega
   have h30:es.length≤30:=by have:=hg.ed.len;have:=hg.ed.hi;omega
   have oG:=o1.le hG
   unfold F29.B1
   refine ldI_own oG rfl (ld1_own oG rfl (nearEdges_ok (h1.le hG) (by omega) fun w G2 l2 hR=>circle_ok (by omega) (by omega) fun c G3 l3 hc1 hC=>?_))
   have l03:=AHeap.le_trans l1 (AHeap.le_trans hG (AHeap.le_trans l2 l3))
   refine isProper_ok hll (by omega) hk1 (hs.le l03) (hR.le l3) hC hc1 fun G4 b l4 hb=>asB_mk ?_
   have:=kk G4 (AHeap.le_trans l03 l4)
   rw [icVal_of h0 hb,h0] at this
   exact this
 unfold F29.B4
 refine ldI_own o1 rfl (ld1_own o1 rfl (isCircle_ok (asB_mk ⟨AHeap.le_refl _,pif_cases (fun hk=>?_) fun hk=>?_⟩)))
 ·refine (hs.le l1).len (ld1_own o1 rfl (h1.len (graphCode_ok h1 hl fun H2 l2=>asI_mk ?_)))
  have:=body H2 l2
  unfold icCode at this
  rw [hk,Bool.true_and] at this
  have e:((l.length:Int)==(es.length:Int))=decide (l.length=es.length):=by
   rw [Bool.eq_iff_iff,beq_iff_eq,decide_eq_true_iff];omega
  rw [e];exact this
 ·refine graphCode_ok h1 hl fun H2 l2=>asI_mk ?_
  have:=body H2 l2
  unfold icCode at this
  rw [hk,Bool.false_and] at this
  exact this
theorem specIsCir_ok (h:Edges H v es) (hl:es.length≤1048576) (hs:Ints H u l) (kk:∀ G,H.le G→K (.tuple ⟨[.bool (icVal n es k d l),.int .i64 (icCode n es k d l)]⟩) G) :
 AC Tryz.prog T0 30 [.agg ⟨[.int .i64 n,v]⟩,.int .i64 k,.int .i64 d,u] H K:=by
 apply F30.ac
 unfold F30.B18
 refine newK_f (all_iv (edges_one' h)) fun H1 l1 n1 o1=>?_
 unfold F30.B17
 refine ldI_own o1 rfl (ld1_own o1 rfl (l01Is_ok (h.le l1) hl fun H2 l2=>asB_mk (pif_cases (fun hg=>?_) fun hg=>?_)))
 ·have hg:¬ IsG n es:=by rw [Bool.not_eq_true'] at hg;exact of_decide_eq_false hg
  have hc:icCode n es k d l=1:=by unfold icCode;rw [if_neg hg]
  have:=kk H2 (AHeap.le_trans l1 l2)
  rw [icVal_no (by rw [hc];decide),hc] at this
  unfold F30.B14
  exact this
 have hg:IsG n es:=by rw [Bool.not_eq_false'] at hg;exact of_decide_eq_true hg
 have h30:es.length≤30:=by have:=hg.ed.len;have:=hg.ed.hi;omega
 have l12:=AHeap.le_trans l1 l2
 have o2:=o1.le l2
 have bad:(cirK k d&&decide (l.length=es.length))=false→F30.B15 K H2:=fun hb=>by
  have hc:icCode n es k d l=2:=by unfold icCode;rw [if_pos hg,hb];rfl
  have:=kk H2 l12
  rw [icVal_no (by rw [hc];decide),hc] at this
  unfold F30.B15
  exact this
 unfold F30.B16
 refine l08Numbers_ok (asB_mk (pif_cases (fun hk=>bad (by rw [Bool.not_eq_true'] at hk;rw [hk,Bool.false_and])) fun hk=>?_))
 rw [Bool.not_eq_false'] at hk
 have hs2:=hs.le l12
 have h2:=h.le l12
 refine hs2.len (ld1_own o2 rfl (h2.len (pif_cases (fun hb=>bad ?_) fun hb=>?_)))
 ·have:(l.length:Int)≠es.length:=bne_iff_ne.1 hb
  rw [decide_eq_false (by omega),Bool.and_false]
 have hll:l.length=es.length:=by have:=bne_eq_false_iff_eq.1 hb;omega
 have h0:icCode n es k d l=0:=by unfold icCode;rw [if_pos hg,hk,decide_eq_true hll];rfl
 obtain ⟨hk1,hd1,hd2⟩:=cirK_iff.1 hk
 have hd3:Int.tdiv k 2≤7:=by rw [Int.tdiv_eq_ediv_of_nonneg (by omega)];omega
 have yes:∀ G (b:Bool),H.le G→(b=true↔IsCi es k d l es.length)→K (.tuple ⟨[.bool b,.int .i64 0]⟩) G:=fun G b hG hb=>by
  have:=kk G hG
  rwa [icVal_of h0 hb,h0] at this
 unfold F30.B13 F30.L2
 refine ⟨fun x1 x2 x3 x4 x10 G=>k=x1∧d=x2∧u=x3∧H.length=x4∧H2.le G∧∃ i:Nat,x10=i∧i≤l.length∧CiTo es k d l i,fun _ _ _ _ x10 _=>l.length-x10.toNat,⟨rfl,rfl,rfl,rfl,AHeap.le_refl _,0,rfl,by omega,fun j hj=>absurd hj (by omega)⟩,?_⟩
 rintro x1 x2 x3 x4 x10 G ⟨rfl,rfl,rfl,rfl,lG,i,rfl,hi,hci⟩
 have l0G:=AHeap.le_trans l12 lG
 have hsG:=hs.le l0G
 unfold F30.B12
 refine hsG.len (pif_cases (fun hc=>?_) fun hc=>?_)
 ·have hil:i<l.length:=by have:=of_decide_eq_true hc;omega
  unfold F30.B11
  refine hsG.rd (by omega) (by omega) ?_
  rw [wrap_id (x:=k-1) (by omega) (by omega),Int.toNat_natCast]
  refine l01In_ok (asB_mk (pif_cases (fun hb=>?_) fun hb=>?_))
  ·rw [Bool.not_eq_true'] at hb
   unfold F30.B10
   exact yes G false l0G ⟨fun h=>absurd h (by decide),fun h=>absurd (h.rng i (by omega)) (of_decide_eq_false hb)⟩
  rw [Bool.not_eq_false'] at hb
  have hr:=of_decide_eq_true hb
  unfold F30.B9 F30.L4
  refine ⟨fun x1 x2 x3 x4 x10 x11 G'=>k=x1∧d=x2∧u=x3∧H.length=x4∧(i:Int)=x10∧H2.le G'∧∃ j:Nat,x11=j∧j≤i∧∀ f,f<j→share (es.getD i (0,0)) (es.getD f (0,0))→apB k d (l.getD i 0) (l.getD f 0)=true,fun _ _ _ _ _ x11 _=>i-x11.toNat,⟨rfl,rfl,rfl,rfl,rfl,lG,0,rfl,by omega,fun f hf=>absurd hf (by omega)⟩,?_⟩
  rintro x1 x2 x3 x4 x10 x11 G' ⟨rfl,rfl,rfl,rfl,rfl,lG',j,rfl,hj,hp⟩
  have l0:=AHeap.le_trans l12 lG'
  have oG:=o2.le lG'
  unfold F30.B8
  refine pif_cases (fun hc=>?_) fun hc=>?_
  ·have hji:j<i:=by have:=of_decide_eq_true hc;omega
   have hrj:=(hci j hji).1
   have nxt:∀ G2,H2.le G2→(share (es.getD i (0,0)) (es.getD j (0,0))→apB k d (l.getD i 0) (l.getD j 0)=true)→F30.B5 K (fun x1 x2 x3 x4 x10 G=>(k=x1∧d=x2∧u=x3∧H.length=x4∧H2.le G∧∃ i:Nat,x10=i∧i≤l.length∧CiTo es k d l i)∧l.length-x10.toNat<l.length-(i:Int).toNat) (fun x1 x2 x3 x4 x10 x11 G'=>(k=x1∧d=x2∧u=x3∧H.length=x4∧(i:Int)=x10∧H2.le G'∧∃ j:Nat,x11=j∧j≤i∧∀ f,f<j→share (es.getD i (0,0)) (es.getD f (0,0))→apB k d (l.getD i 0) (l.getD f 0)=true)∧i-x11.toNat<i-(j:Int).toNat) k d u H.length (i:Int) (j:Int) G2:=fun G2 hG2 hn=>by
    unfold F30.B5
    rw [wrap_id (by omega) (by omega)]
    refine ⟨⟨rfl,rfl,rfl,rfl,rfl,hG2,j+1,by omega,by omega,fun f hf=>?_⟩,by omega⟩
    by_cases e:f=j
    ·subst e;exact hn
    ·exact hp f (by omega)
   unfold F30.B7
   refine ldI_own oG rfl (ld1_own oG rfl (l08Near_ok (e:=i) (f:=j) (h.le l0) (by omega) (by omega) fun G2 l2=>asB_mk (pif_cases (fun hn=>?_) fun hn=>nxt G2 (AHeap.le_trans lG' l2) fun hs=>?_)))
   ·have hs2:=hs.le (AHeap.le_trans l0 l2)
    refine hs2.rd (by omega) (by omega) (hs2.rd (by omega) (by omega) ?_)
    rw [Int.toNat_natCast,Int.toNat_natCast]
    refine l08Apart_ok (by omega) (by omega) (by omega) (by omega) (asB_mk (pif_cases (fun ha=>?_) fun ha=>nxt G2 (AHeap.le_trans lG' l2) fun _=>?_))
    ·rw [Bool.not_eq_true'] at ha
     unfold F30.B6
     refine yes G2 false (AHeap.le_trans l0 l2) ⟨fun h=>absurd h (by decide),fun h=>?_⟩
     have:=h.ok i (by omega) j hji (nrB_iff.1 hn)
     rw [ha] at this;cases this
    ·simpa using ha
   ·rw [nrB_iff.2 hs] at hn;cases hn
  ·have hji:j=i:=by have:=of_decide_eq_false hc;omega
   subst hji
   unfold F30.B3
   rw [wrap_id (by omega) (by omega)]
   refine ⟨⟨rfl,rfl,rfl,rfl,lG',j+1,by omega,by omega,fun q hq=>?_⟩,by simp;omega⟩
   by_cases e:q=j
   ·subst e;exact ⟨hr,fitC_iff.2 hp⟩
   ·exact hci q (by omega)
 ·have hil:i=l.length:=by have:=of_decide_eq_false hc;omega
  subst hil
  unfold F30.B1
  rw [hll] at hci
  exact yes G true l0G ⟨fun _=>(ciTo_iff hll).1 hci,fun _=>rfl⟩
end Go.Proofs
namespace Go.Proofs
open Go.Abs

variable {H G G' B0:AHeap} {v u w f nv cv:Value} {l c R L:List Int} {es fs:List (Int × Int)} {K:Value→AHeap→Prop} {n k d:Int} {m pl pk pf pn pc pg lb:Nat} {tl tk tf tn tc tg:TypeId}

def rowI (G:AHeap) (b:Nat):Int:=match G.cell b 0 with
 | some (.int _ x)=>x
 | _=>0
theorem rowI_own {b:Nat} {e:TypeId} {kk:IntKind} {x:Int} (h:Own G b e [.int kk x]):rowI G b=x:=by
 unfold rowI
 rw [h.cell];rfl
abbrev pP (b:Nat):Value:=.pointer (some ⟨b,0,none⟩)
abbrev cirV (pl pk pf pn pc pg:Nat):Value:=.func (.func 145) ⟨[]⟩ ⟨[pP pl,pP pk,pP pf,pP pn,pP pc,pP pg]⟩
structure GrS (B0:AHeap) (es:List (Int × Int)) (k d:Int) (pl pk pf pn pc pg lb:Nat) (nv cv:Value) (tl tk tf tn tc tg:TypeId) (G:AHeap):Prop where
 ol:Own G pl tl [.slice (some ⟨lb,0,none⟩) es.length (es.length+1)]
 ok:Own G pk tk [.int .i64 k]
 of:Own G pf tf [.bool false]
 on:Own G pn tn [nv]
 oc:Own G pc tc [cv]
 og:Own G pg tg [cirV pl pk pf pn pc pg]
 base:B0.le G
 bl:B0.length≤lb
 ne:pl≠lb∧pk≠lb∧pf≠lb∧pn≠lb∧pc≠lb∧pg≠lb
theorem GrS.kb (h:GrS B0 es k d pl pk pf pn pc pg lb nv cv tl tk tf tn tc tg G) (hk:Kb lb G G'):GrS B0 es k d pl pk pf pn pc pg lb nv cv tl tk tf tn tc tg G':=
 ⟨hk.own h.ol h.ne.1,hk.own h.ok h.ne.2.1,hk.own h.of h.ne.2.2.1,hk.own h.on h.ne.2.2.2.1,hk.own h.oc h.ne.2.2.2.2.1,hk.own h.og h.ne.2.2.2.2.2,hk.le h.base h.bl,h.bl,h.ne⟩
theorem take_set {i:Nat} {x:Int} (hi:i<L.length) (h:L.take i=c):L.set i x=(c++[x])++L.drop (i+1):=by
 rw [List.set_eq_take_append_cons_drop,if_pos hi,h];simp
theorem get_take {i j:Nat} (hj:j<i) (h:L.take i=c):L.getD j 0=c.getD j 0:=by
 rw [← h]
 simp [List.getD,List.getElem?_take,hj]
theorem ciTo_snoc {x:Nat} (h:CiTo es k d c c.length) (hx:(x:Int)≤k-1) (hf:fitC es k d c c.length (x:Int)=true):CiTo es k d (c++[(x:Int)]) (c++[(x:Int)]).length:=by
 intro j hj
 rw [List.length_append,List.length_singleton] at hj
 by_cases e:j=c.length
 ·subst e
  rw [getD_snoc_last]
  refine ⟨by omega,?_⟩
  rw [← hf]
  exact fitC_congr fun q hq=>getD_snoc hq
 ·rw [getD_snoc (by omega)]
  have:=h j (by omega)
  refine ⟨this.1,?_⟩
  rw [← this.2]
  exact fitC_congr fun q hq=>getD_snoc (by omega)
theorem cirGrow_ok (h30:es.length≤30) (hk:2≤k∧k≤14) (hR:NrR es B0 nv) (hC:CirF B0 cv k d) :
 ∀ (r:Nat) (c:List Int) (L:List Int) (most:Int) (G:AHeap) (K:Value→AHeap→Prop),c.length+r=es.length→L.length=es.length→L.take c.length=c→CiTo es k d c c.length→-1≤most→most≤100→
  GrS B0 es k d pl pk pf pn pc pg lb nv cv tl tk tf tn tc tg G→Own G lb 2 (LI L)→
  (∀ G' L',Kb lb G G'→Own G' lb 2 (LI L')→L'.length=es.length→L'.take c.length=c→(∀ l,cirO es k d r c=some l→L'=l)→K (.bool (cirO es k d r c).isSome) G')→
  AC Tryz.prog T0 145 [.int .i64 (c.length:Nat),.int .i64 most,pP pl,pP pk,pP pf,pP pn,pP pc,pP pg] G K:=by
 intro r
 induction r with
 | zero=>
  intro c L most G K hr hL ht hci hm0 hm1 hS oL kk
  apply F145.ac
  unfold F145.B18 F145.B17
  refine asP_mk (ld1_own hS.ol rfl (lenK_of (pif_t (by rw [beq_iff_eq];omega) ?_)))
  unfold F145.B16
  refine kk G L .refl oL hL ht fun l e=>?_
  rw [cirO] at e
  cases e
  rw [← ht,List.take_of_length_le (by omega)]
 | succ r ih=>
  intro c L most G K hr hL ht hci hm0 hm1 hS oL kk
  have hlt:c.length<es.length:=by omega
  have hlb:=oL.lt
  apply F145.ac
  unfold F145.B18 F145.B17
  refine asP_mk (ld1_own hS.ol rfl (lenK_of (pif_f (by rw [beq_eq_false_iff_ne];omega) ?_)))
  have go:∀ last:Int,last=(tries k c:Int)-1→F145.B10 K (c.length:Int) most (pP pl) (pP pn) (pP pc) (pP pg) last G:=by
   intro last hlast
   have ht14:tries k c≤14:=by
    unfold tries
    split <;> omega
   unfold F145.B10
   refine newK_f rfl fun G1 l1 n1 o1=>stK_f (new:=[.int .i64 0]) o1 (by simp) (by simp [Value.oneCell']) rfl fun G2 b2 o2=>?_
   have l02:G.le G2:=b2.le l1 (Nat.le_refl _)
   unfold F145.L2
   refine ⟨fun x0 x1 x2 x5 x6 x7 x11 x12 G'=>(c.length:Int)=x0∧most=x1∧pP pl=x2∧pP pn=x5∧pP pc=x6∧pP pg=x7∧last=x11∧∃ (t:Nat) (L':List Int),Own G' x12 2 [.int .i64 (t:Int)]∧G.length≤x12∧t≤tries k c∧Kb lb G G'∧Own G' lb 2 (LI L')∧L'.length=es.length∧L'.take c.length=c∧cirT es k d r c t=none,
    fun _ _ _ _ _ _ x11 x12 G'=>(x11+1-rowI G' x12).toNat,⟨rfl,rfl,rfl,rfl,rfl,rfl,rfl,0,L,o2,Nat.le_refl _,Nat.zero_le _,.of_le l02,oL.le l02,hL,ht,rfl⟩,?_⟩
   rintro x0 x1 x2 x5 x6 x7 x11 x12 G' ⟨rfl,rfl,rfl,rfl,rfl,rfl,rfl,t,L',o12,hx12,htt,kb,oL',hL',ht',hnone⟩
   have hS':=hS.kb kb
   have hne:x12≠lb:=by omega
   have hmu:rowI G' x12=(t:Int):=rowI_own o12
   -- on to the next number
   have next:∀ (G3:AHeap) (L3:List Int),Kb lb G G3→Own G3 x12 2 [.int .i64 (t:Int)]→Own G3 lb 2 (LI L3)→L3.length=es.length→L3.take c.length=c→t<tries k c→cirT es k d r c (t+1)=none→
    F145.B5 K (fun x0 x1 x2 x5 x6 x7 x11 x12' G''=>((c.length:Int)=x0∧most=x1∧pP pl=x2∧pP pn=x5∧pP pc=x6∧pP pg=x7∧last=x11∧∃ (t:Nat) (L':List Int),Own G'' x12' 2 [.int .i64 (t:Int)]∧G.length≤x12'∧t≤tries k c∧Kb lb G G''∧Own G'' lb 2 (LI L')∧L'.length=es.length∧L'.take c.length=c∧cirT es k d r c t=none)∧(x11+1-rowI G'' x12').toNat<(last+1-rowI G' x12).toNat) (c.length:Int) most (pP pl) (pP pn) (pP pc) (pP pg) last x12 G3:=by
    intro G3 L3 kb3 o3 oL3 hL3 ht3 htl hn3
    have hg3:=kb3.len
    unfold F145.B5
    refine ldI_own o3 rfl ?_
    unfold F145.B4
    refine newK_f rfl fun G4 l4 n4 o4=>stK_f (new:=[.int .i64 (t:Int)]) o4 (by simp) (by simp [Value.oneCell']) rfl fun G5 b5 o5=>?_
    unfold F145.B3
    refine ldI_own o5 rfl (stK_f (new:=[.int .i64 ((t:Int)+1)]) o5 (by simp) (by simp [Value.oneCell']) (by rw [wrap_id (by omega) (by omega)];rfl) fun G6 b6 o6=>?_)
    have l36:G3.le G6:=b6.le (b5.le l4 (Nat.le_refl _)) (Nat.le_refl _)
    have hr6:rowI G6 G3.length=(t:Int)+1:=rowI_own o6
    refine ⟨⟨rfl,rfl,rfl,rfl,rfl,rfl,rfl,t+1,L3,by rw [show ((t+1:Nat):Int)=(t:Int)+1 by omega];exact o6,hg3,by omega,kb3.trans (.of_le l36),oL3.le l36,hL3,ht3,hn3⟩,?_⟩
    rw [hr6,hmu];omega
   unfold F145.B9
   refine ldI_own o12 rfl (pif_cases (fun hc=>?_) fun hc=>?_)
   ·have htl:t<tries k c:=by have:=of_decide_eq_true hc;omega
    unfold F145.B8
    refine asP_mk (ld1_own hS'.ol rfl (ldI_own o12 rfl (own_idx (by omega) (by omega) (stK_1 oL' (by simp;omega) rfl fun G3 b3 o3=>?_))))
    rw [Int.toNat_natCast] at o3
    have o3:Own G3 lb 2 (LI (L'.set c.length (t:Int))):=by simpa using o3
    have kb3:=kb.trans b3.kb
    have hS3:=hS.kb kb3
    have o12':=b3.own o12 hne
    have hset:=take_set (x:=(t:Int)) (by omega:c.length<L'.length) ht'
    have hL3:(L'.set c.length (t:Int)).length=es.length:=by simpa using hL'
    have ht3:(L'.set c.length (t:Int)).take c.length=c:=by rw [hset,List.append_assoc];simp
    have hfc:fitC es k d (L'.set c.length (t:Int)) c.length (t:Int)=fitC es k d c c.length (t:Int):=fitC_congr fun j hj=>get_take hj ht3
    have hsucc:=cirT_succ (es:=es) (k:=k) (d:=d) r c t
    rw [hnone] at hsucc
    have hfl:=nrL_len es c.length
    unfold F145.B7
    refine asP_mk (ld1_own hS3.on rfl ((hR.le hS3.base).row hlt fun w hw=>contains64_ok (q:=fun y=>!apB k d (t:Int) ((L'.set c.length (t:Int)).getD y.toNat 0)) hw (by omega) ?_ ?_))
    ·intro y hy G4 l4 K' hK
     obtain ⟨j,rfl,hj,_⟩:=mem_filtB.1 hy
     have hrj:=(hci j hj).1
     rw [Int.toNat_natCast,get_take hj ht3] at hK
     have hS4:=hS3.kb (.of_le l4)
     refine callV_mk ?_
     apply F147.ac
     unfold F147.B2 F147.B1
     refine asP_mk (ld1_own hS4.oc rfl (asP_mk (ldI_own (o12'.le l4) rfl (asP_mk (ld1_own hS4.ol rfl (own_idx (by omega) (by omega) (ldI_own (n:=c.getD j 0) (o3.le l4) ?_ ?_)))))))
     ·rw [Int.toNat_natCast,List.getElem?_map,List.getElem?_eq_getElem (by omega),← getD_of (d:=0) (by omega),get_take hj ht3];rfl
     ·exact hC (t:Int) (c.getD j 0) (by omega) (by omega) (by omega) (by omega) G4 hS4.base _ fun G5 l5=>asB_mk (hK G5 l5)
    ·intro G4 l4
     have kb4:=kb3.trans (.of_le l4)
     have hS4:=hS.kb kb4
     rw [near_any,hfc]
     refine asB_mk (pif_cases (fun hb=>?_) fun hb=>?_)
     ·have hb:fitC es k d c c.length (t:Int)=true:=by simpa using hb
      rw [if_pos hb] at hsucc
      have htk:=tries_le (k:=k) (by omega) c htl
      have hgx:(if (t:Int)>most then (t:Int) else most)≤100∧-1≤(if (t:Int)>most then (t:Int) else most):=by split <;> omega
      refine asP_mk (ld1_own hS4.og rfl (ldI_own (o12'.le l4) rfl (callV_mk ?_)))
      rw [wrap_id (by omega) (by omega)]
      have hcl:(c++[(t:Int)]).length=c.length+1:=by simp
      have:=ih (c++[(t:Int)]) (L'.set c.length (t:Int)) (if (t:Int)>most then (t:Int) else most) G4 (fun v14 H15=>asB v14 fun v16=>pif v16 (F145.B6 K (fun x0 x1 x2 x5 x6 x7 x11 x12' G''=>((c.length:Int)=x0∧most=x1∧pP pl=x2∧pP pn=x5∧pP pc=x6∧pP pg=x7∧last=x11∧∃ (t:Nat) (L':List Int),Own G'' x12' 2 [.int .i64 (t:Int)]∧G.length≤x12'∧t≤tries k c∧Kb lb G G''∧Own G'' lb 2 (LI L')∧L'.length=es.length∧L'.take c.length=c∧cirT es k d r c t=none)∧(x11+1-rowI G'' x12').toNat<(last+1-rowI G' x12).toNat) H15)
       (F145.B5 K (fun x0 x1 x2 x5 x6 x7 x11 x12' G''=>((c.length:Int)=x0∧most=x1∧pP pl=x2∧pP pn=x5∧pP pc=x6∧pP pg=x7∧last=x11∧∃ (t:Nat) (L':List Int),Own G'' x12' 2 [.int .i64 (t:Int)]∧G.length≤x12'∧t≤tries k c∧Kb lb G G''∧Own G'' lb 2 (LI L')∧L'.length=es.length∧L'.take c.length=c∧cirT es k d r c t=none)∧(x11+1-rowI G'' x12').toNat<(last+1-rowI G' x12).toNat) (c.length:Int) most (pP pl) (pP pn) (pP pc) (pP pg) last x12 H15))
       (by omega) hL3 (by rw [hcl,hset,← hcl,List.take_left]) (ciTo_snoc hci htk hb) hgx.2 hgx.1 hS4 (o3.le l4) ?_
      ·rw [hcl,show ((c.length+1:Nat):Int)=(c.length:Int)+1 by omega] at this
       exact this
      ·intro G5 L5 kb5 o5 hL5 ht5 hsome
       have ht5':L5.take c.length=c:=by
        have:=congrArg (List.take c.length) ht5
        rw [hcl,List.take_take,Nat.min_eq_left (by omega),List.take_left] at this
        exact this
       refine asB_mk (pif_cases (fun hs=>?_) fun hs=>?_)
       ·obtain ⟨l5,hl5⟩:=Option.isSome_iff_exists.1 hs
        have hT:cirT es k d r c (t+1)=some l5:=by rw [hsucc,hl5];rfl
        have hO:cirO es k d (r+1) c=some l5:=by rw [cirO_succ];exact cirT_some hT htl
        unfold F145.B6
        have:=kk G5 L5 (kb4.trans kb5) o5 hL5 ht5' fun l e=>by
         rw [hO] at e;cases e
         exact hsome _ hl5
        rwa [hO] at this
       ·have hn:cirO es k d r (c++[(t:Int)])=none:=by
         cases hx:cirO es k d r (c++[(t:Int)]) with
         | none=>rfl
         | some z=>rw [hx] at hs;cases hs
        refine next G5 L5 (kb4.trans kb5) (kb5.own (o12'.le l4) hne) o5 hL5 ht5' htl ?_
        rw [hsucc,hn];rfl
     ·have hb:¬ fitC es k d c c.length (t:Int)=true:=by simpa using hb
      rw [if_neg hb] at hsucc
      exact next G4 _ kb4 (o12'.le l4) (o3.le l4) hL3 ht3 htl (by rw [hsucc];rfl)
   ·have htl:t=tries k c:=by have:=of_decide_eq_false hc;omega
    subst htl
    unfold F145.B1
    have hO:cirO es k d (r+1) c=none:=by rw [cirO_succ];exact hnone
    have:=kk G' L' kb oL' hL' ht' fun l e=>by rw [hO] at e;cases e
    rwa [hO] at this
  unfold F145.B15
  refine asP_mk (ldI_own hS.ok rfl ?_)
  rw [wrap_id (by omega) (by omega)]
  unfold F145.B14
  refine asP_mk (ld1_own hS.of rfl (asB_mk (pif_f rfl ?_)))
  unfold F145.B13
  refine pif_cases (fun hc=>?_) fun hc=>?_
  ·have hc0:c=[]:=List.length_eq_zero_iff.1 (by have:=beq_iff_eq.1 hc;omega)
   unfold F145.B12
   refine go 0 ?_
   rw [hc0];rfl
  ·have hc0:c≠[]:=fun e=>by rw [e] at hc;cases hc
   refine go (k-1) ?_
   match c,hc0 with
   | _::_,_=>
    show k-1=(k.toNat:Int)-1
    omega
theorem leastProper_ok (h30:es.length≤30) (h0:0<es.length) (hk:2≤k∧k≤14) (hR:NrR es H nv) (hC:CirF H cv k d) (hcv:cv.oneCell'=true)
 (kk:∀ w G L,H.le G→Fresh H.length G w 2 1 (LI L)→L.length=es.length→(∀ l,cirO es k d es.length []=some l→L=l)→K (.tuple ⟨[w,.bool (cirO es k d es.length []).isSome]⟩) G) :
 AC Tryz.prog T0 83 [.int .i64 k,nv,cv,.bool false] H K:=by
 have hnv:=hR.one
 apply F83.ac
 unfold F83.B5
 refine newK_f rfl fun H1 l1 n1 o1=>pif_t hnv (newK_f (by rw [List.all_cons,hnv];rfl) fun H2 l2 n2 o2=>pif_t hcv (newK_f (by rw [List.all_cons,hcv];rfl) fun H3 l3 n3 o3=>newK_f rfl fun H4 l4 n4 o4=>?_))
 have l34:=l4
 have l24:=AHeap.le_trans l3 l34
 have l14:=AHeap.le_trans l2 l24
 have l04:=AHeap.le_trans l1 l14
 have o1:=o1.le l14;have o2:=o2.le l24;have o3:=o3.le l34
 unfold F83.B4
 refine ld1_own o2 rfl ?_
 have hlen:∀ {Z:Nat→Prop},Z es.length→lenK nv Z:=fun {Z} hZ=>by
  obtain ⟨b,vs,rfl,_⟩:=hR
  exact hZ
 refine hlen (mkR_int (by omega) (by omega) (by decide) fun H5 l5 n5 o5=>newK_f rfl fun H6 l6 n6 o6=>?_)
 rw [Int.toNat_natCast,rep_one] at o5
 rw [Int.toNat_natCast]
 obtain ⟨lb,hlb⟩:∃ lb,lb=H4.length:=⟨_,rfl⟩
 rw [← hlb] at o5 ⊢
 refine pif_t rfl (stK_f (new:=[.slice (some ⟨lb,0,none⟩) es.length (es.length+1)]) o6 (by simp) (by simp [Value.oneCell']) rfl fun H7 b7 o7=>?_)
 have l57:H5.le H7:=b7.le l6 (Nat.le_refl _)
 unfold F83.B3
 refine newK_f rfl fun H8 l8 n8 o8=>?_
 unfold F83.B2
 refine stK_f (new:=[cirV H5.length H.length H3.length H1.length H2.length H7.length]) o8 (by simp) (by simp [Value.oneCell']) rfl fun H9 b9 o9=>?_
 have l79:H7.le H9:=b9.le l8 (Nat.le_refl _)
 have l59:=AHeap.le_trans l57 l79
 have l49:=AHeap.le_trans l5 l59
 have l09:=AHeap.le_trans l04 l49
 have hn7:H7.length=H4.length+2:=by rw [b7.len,n6,n5]
 have g0:=l04.1
 have hS:GrS H es k d H5.length H.length H3.length H1.length H2.length H7.length lb nv cv _ _ _ _ _ _ H9:=
  ⟨o7.le l79,o1.le l49,o4.le l49,o2.le l49,o3.le l49,o9,l09,by omega,⟨by omega,by omega,by omega,by omega,by omega,by omega⟩⟩
 unfold F83.B1
 refine ld1_own hS.ol rfl (ld1_own hS.og rfl (callV_mk ?_))
 refine cirGrow_ok h30 hk hR hC es.length [] (List.replicate es.length 0) (-1) H9 _ (by simp) (by simp) rfl (fun j hj=>absurd hj (by simp)) (by omega) (by omega) hS (o5.le l59) fun G' L' kb oL hL' _ hsome=>asB_mk ?_
 have hS':=hS.kb kb
 refine ⟨ld1_own hS'.ol rfl ⟨rfl,rfl⟩,?_⟩
 exact kk _ G' L' (kb.le l09 (by omega)) (.inr ⟨lb,es.length,by omega,rfl,oL,by simp [hL']⟩) hL' hsome
theorem l08Circular_ok {H0:AHeap} (h30:es.length≤30) (he:Edges H0 v es) (hk:2≤k∧k≤14) (hd:1≤d∧d≤7) :
 ∀ (r:Nat) (c:List Int) (u:Value) (H:AHeap) (m0:Nat) (K:Value→AHeap→Prop),c.length+r=es.length→H0.le H→Fresh m0 H u 2 1 (LI c)→m0≤H.length→CiTo es k d c c.length→
  (∀ w G,H.le G→(match cirO es k d r c with|some l=>Fresh m0 G w 2 1 (LI l)|none=>w=.slice none 0 0)→K (.tuple ⟨[w,.bool (cirO es k d r c).isSome]⟩) G)→
  AC Tryz.prog T0 87 [.agg ⟨[.int .i64 n,v]⟩,.int .i64 k,.int .i64 d,u] H K:=by
 intro r
 induction r with
 | zero=>
  intro c u H m0 K hr hl hu hm hci kk
  have hE:=he.le hl
  apply F87.ac
  unfold F87.B21
  refine newK_f (all_iv (edges_one' hE)) fun H1 l1 n1 o1=>?_
  unfold F87.B20
  refine (hu.le l1).ints.len ?_
  unfold F87.B19
  refine (hu.le l1).ints.len (ld1_own o1 rfl ((hE.le l1).len (pif_t (by rw [beq_iff_eq];omega) ?_)))
  unfold F87.B18
  have:=kk u H1 l1
  rw [cirO] at this
  exact this (hu.le l1)
 | succ r ih=>
  intro c u H m0 K hr hl hu hm hci kk
  have hlt:c.length<es.length:=by omega
  have hE:=he.le hl
  apply F87.ac
  unfold F87.B21
  refine newK_f (all_iv (edges_one' hE)) fun H1 l1 n1 o1=>?_
  unfold F87.B20
  refine (hu.le l1).ints.len ?_
  unfold F87.B19
  refine (hu.le l1).ints.len (ld1_own o1 rfl ((hE.le l1).len (pif_f (by rw [beq_eq_false_iff_ne];omega) ?_)))
  unfold F87.B17 F87.L2
  refine ⟨fun x1 x2 x3 x4 x10 x11 G=>k=x1∧d=x2∧u=x3∧H.length=x4∧(c.length:Int)=x10∧H1.le G∧∃ t:Nat,x11=t∧t≤k.toNat∧(c=[]→t=0)∧cirT es k d r c t=none,fun _ _ _ _ _ x11 _=>k.toNat-x11.toNat,⟨rfl,rfl,rfl,rfl,rfl,AHeap.le_refl _,0,rfl,by omega,fun _=>rfl,rfl⟩,?_⟩
  rintro x1 x2 x3 x4 x10 x11 G ⟨rfl,rfl,rfl,rfl,rfl,lG,t,rfl,ht,ht0,hnone⟩
  have lHG:=AHeap.le_trans l1 lG
  unfold F87.B16
  refine pif_cases (fun hb=>?_) fun hb=>?_
  ·have htk:t<k.toNat:=by have:=of_decide_eq_true hb;omega
   have htl:t<tries k c:=by
    unfold tries
    split
    ·have:=ht0 rfl;omega
    ·exact htk
   have hsucc:=cirT_succ (es:=es) (k:=k) (d:=d) r c t
   rw [hnone] at hsucc
   unfold F87.B15 F87.B14 F87.L10
   refine ⟨fun x1 x2 x3 x4 x10 x11 x12 x13 G'=>k=x1∧d=x2∧u=x3∧H.length=x4∧(c.length:Int)=x10∧(t:Int)=x11∧H1.le G'∧∃ j:Nat,x13=j∧j≤c.length∧(x12=true→∀ f,f<j→share (es.getD c.length (0,0)) (es.getD f (0,0))→apB k d (t:Int) (c.getD f 0)=true)∧(x12=false→fitC es k d c c.length (t:Int)=false),fun _ _ _ _ _ _ _ x13 _=>c.length-x13.toNat,⟨rfl,rfl,rfl,rfl,rfl,rfl,lG,0,rfl,by omega,fun _ f hf=>absurd hf (by omega),fun h=>by cases h⟩,?_⟩
   rintro x1 x2 x3 x4 x10 x11 x12 x13 G' ⟨rfl,rfl,rfl,rfl,rfl,rfl,lG',j,rfl,hj,hp,hq⟩
   have lH':=AHeap.le_trans l1 lG'
   have oG:=o1.le lG'
   have hE':=hE.le lH'
   have hu':=hu.le lH'
   -- all lesser edges were looked at, or one does not fit
   have fin:(x12=true→fitC es k d c c.length (t:Int)=true)→F87.B9 K (fun x1 x2 x3 x4 x10 x11 G=>(k=x1∧d=x2∧u=x3∧H.length=x4∧(c.length:Int)=x10∧H1.le G∧∃ t:Nat,x11=t∧t≤k.toNat∧(c=[]→t=0)∧cirT es k d r c t=none)∧k.toNat-x11.toNat<k.toNat-(t:Int).toNat) k d u H.length (c.length:Int) (t:Int) x12 G':=by
    intro hfin
    have skip:∀ G3,H1.le G3→c≠[]→cirT es k d r c (t+1)=none→F87.B3 K (fun x1 x2 x3 x4 x10 x11 G=>(k=x1∧d=x2∧u=x3∧H.length=x4∧(c.length:Int)=x10∧H1.le G∧∃ t:Nat,x11=t∧t≤k.toNat∧(c=[]→t=0)∧cirT es k d r c t=none)∧k.toNat-x11.toNat<k.toNat-(t:Int).toNat) k d u H.length (c.length:Int) (t:Int) G3:=fun G3 l3 hc hn=>by
     unfold F87.B3
     rw [wrap_id (by omega) (by omega)]
     exact ⟨⟨rfl,rfl,rfl,rfl,rfl,l3,t+1,by omega,by omega,fun e=>absurd e hc,hn⟩,by omega⟩
    have seven:∀ G3 w,H1.le G3→fitC es k d c c.length (t:Int)=true→(match cirO es k d r (c++[(t:Int)]) with|some l=>Fresh m0 G3 w 2 1 (LI l)|none=>w=.slice none 0 0)→F87.B7 K (fun x1 x2 x3 x4 x10 x11 G=>(k=x1∧d=x2∧u=x3∧H.length=x4∧(c.length:Int)=x10∧H1.le G∧∃ t:Nat,x11=t∧t≤k.toNat∧(c=[]→t=0)∧cirT es k d r c t=none)∧k.toNat-x11.toNat<k.toNat-(t:Int).toNat) k d u H.length (c.length:Int) (t:Int) w (cirO es k d r (c++[(t:Int)])).isSome G3:=fun G3 w l3 hf hw=>by
     rw [if_pos hf] at hsucc
     unfold F87.B7
     refine pif_cases (fun hs=>?_) fun hs=>?_
     ·obtain ⟨l5,hl5⟩:=Option.isSome_iff_exists.1 hs
      have hT:cirT es k d r c (t+1)=some l5:=by rw [hsucc,hl5];rfl
      have hO:cirO es k d (r+1) c=some l5:=by rw [cirO_succ];exact cirT_some hT htl
      unfold F87.B6
      have:=kk w G3 (AHeap.le_trans l1 l3)
      rw [hO] at this
      rw [hl5] at hw
      exact this hw
     ·have hn:cirO es k d r (c++[(t:Int)])=none:=by
       cases hx:cirO es k d r (c++[(t:Int)]) with
       | none=>rfl
       | some z=>rw [hx] at hs;cases hs
      have hT:cirT es k d r c (t+1)=none:=by rw [hsucc,hn];rfl
      unfold F87.B5
      refine pif_cases (fun hc=>?_) fun hc=>?_
      ·have hc0:c=[]:=List.length_eq_zero_iff.1 (by have:=beq_iff_eq.1 hc;omega)
       have hO:cirO es k d (r+1) c=none:=by
        rw [cirO_succ]
        have:=ht0 hc0
        subst this
        rw [hc0] at hT ⊢
        exact hT
       unfold F87.B4
       have:=kk (.slice none 0 0) G3 (AHeap.le_trans l1 l3)
       rw [hO] at this
       exact this rfl
      ·have hc0:c≠[]:=fun e=>by rw [e] at hc;cases hc
       exact skip G3 l3 hc0 hT
    unfold F87.B9
    refine pif_cases (fun h12=>?_) fun h12=>?_
    ·have h12:x12=false:=by simpa using h12
     have hf:=hq h12
     rw [hf] at hsucc
     refine skip G' lG' (fun e=>?_) (by rw [hsucc];rfl)
     have:fitC es k d c c.length (t:Int)=true:=fitC_iff.2 fun f hf=>by rw [e] at hf;exact absurd hf (by simp)
     rw [hf] at this;cases this
    ·have h12:x12=true:=by simpa using h12
     have hf:=hfin h12
     have hci':=ciTo_snoc hci (x:=t) (by omega) hf
     have hcl:(c++[(t:Int)]).length=c.length+1:=by simp
     unfold F87.B8
     refine ldI_own oG rfl (ld1_own oG rfl ⟨?_,?_⟩)
     ·refine l01Own_ok hu'.ints (by omega) fun w4 G4 l4 f4=>?_
      have o4:=oG.le l4
      refine ⟨ldI_own o4 rfl (ld1_own o4 rfl ⟨rfl,rfl⟩),?_⟩
      refine f4.sl.pushN E_int (by decide) l4.1 (n:=1) (ys:=[.int .i64 (t:Int)]) rfl rfl (by simp;omega) (by simp) fun w5 G5 k5 ot5 nb5 f5=>?_
      have l5:G'.le G5:=k5.le l4 (Nat.le_refl _)
      have o5:=oG.le l5
      have f5:Fresh G'.length G5 w5 2 1 (LI (c++[(t:Int)])):=by simpa using f5
      have hgl:=l5.1
      have hgl2:=lH'.1
      refine ⟨ldI_own o5 rfl (ld1_own o5 rfl ⟨rfl,rfl⟩),?_⟩
      refine ih (c++[(t:Int)]) w5 G5 m0 _ (by omega) (AHeap.le_trans hl (AHeap.le_trans lH' l5)) (f5.less (by omega)) (by omega) hci' fun w6 G6 l6 hw6=>tup2_mk (asB_mk ?_)
      exact seven G6 w6 (AHeap.le_trans lG' (AHeap.le_trans l5 l6)) hf hw6
     ·refine newK_f rfl fun G3 l3 n3 o3=>l01Own_ok (hu'.le l3).ints (by omega) fun w4 G4 l4 f4=>?_
      have l34:=AHeap.le_trans l3 l4
      have o4:=oG.le l34
      refine ⟨ldI_own o4 rfl (ld1_own o4 rfl ⟨rfl,rfl⟩),?_⟩
      have hg3:=l3.1
      refine Sl.app E_int (by decide) f4.sl l4.1 (cellsAt_row (n:=1) (o3.le l4) rfl) (by simp;omega) (fun h=>by cases h) fun w5 G5 k5 ot5 nb5 f5=>?_
      have l5:G'.le G5:=k5.le l34 hg3
      have o5:=oG.le l5
      have f5:Fresh G3.length G5 w5 2 1 (LI (c++[(t:Int)])):=by simpa using f5
      have hgl:=l5.1
      have hgl2:=lH'.1
      refine ⟨ldI_own o5 rfl (ld1_own o5 rfl ⟨rfl,rfl⟩),?_⟩
      refine ih (c++[(t:Int)]) w5 G5 m0 _ (by omega) (AHeap.le_trans hl (AHeap.le_trans lH' l5)) (f5.less (by omega)) (by omega) hci' fun w6 G6 l6 hw6=>tup2_mk (asB_mk ?_)
      exact seven G6 w6 (AHeap.le_trans lG' (AHeap.le_trans l5 l6)) hf hw6
   unfold F87.B13
   refine pif_cases (fun hc=>?_) fun hc=>fin fun h12=>fitC_iff.2 fun f hf hs=>hp h12 f (by have:=of_decide_eq_false hc;omega) hs
   have hjl:j<c.length:=by have:=of_decide_eq_true hc;omega
   refine pif_cases (fun h12=>?_) fun h12=>fin fun h=>by rw [h12] at h;cases h
   have hrj:=(hci j hjl).1
   have nxt:∀ (G3:AHeap) (x:Bool),H1.le G3→(x=true→share (es.getD c.length (0,0)) (es.getD j (0,0))→apB k d (t:Int) (c.getD j 0)=true)→(x=false→fitC es k d c c.length (t:Int)=false)→
    F87.B11 K (fun x1 x2 x3 x4 x10 x11 G=>(k=x1∧d=x2∧u=x3∧H.length=x4∧(c.length:Int)=x10∧H1.le G∧∃ t:Nat,x11=t∧t≤k.toNat∧(c=[]→t=0)∧cirT es k d r c t=none)∧k.toNat-x11.toNat<k.toNat-(t:Int).toNat) (fun x1 x2 x3 x4 x10 x11 x12 x13 G'=>(k=x1∧d=x2∧u=x3∧H.length=x4∧(c.length:Int)=x10∧(t:Int)=x11∧H1.le G'∧∃ j:Nat,x13=j∧j≤c.length∧(x12=true→∀ f,f<j→share (es.getD c.length (0,0)) (es.getD f (0,0))→apB k d (t:Int) (c.getD f 0)=true)∧(x12=false→fitC es k d c c.length (t:Int)=false))∧c.length-x13.toNat<c.length-(j:Int).toNat) k d u H.length (c.length:Int) (t:Int) x (j:Int) G3:=fun G3 x l3 h1 h2=>by
    unfold F87.B11
    rw [wrap_id (by omega) (by omega)]
    refine ⟨⟨rfl,rfl,rfl,rfl,rfl,rfl,l3,j+1,by omega,by omega,fun hx f hf hs=>?_,h2⟩,by omega⟩
    by_cases e:f=j
    ·subst e;exact h1 hx hs
    ·exact hp h12 f (by omega) hs
   unfold F87.B12
   refine ldI_own oG rfl (ld1_own oG rfl (l08Near_ok (e:=c.length) (f:=j) hE' hlt (by omega) fun G3 l3=>asB_mk (pif_cases (fun hn=>?_) fun hn=>?_)))
   ·have hn:nrB es c.length j=false:=by simpa using hn
    exact nxt G3 true (AHeap.le_trans lG' l3) (fun _ hs=>by rw [nrB_iff.2 hs] at hn;cases hn) (fun h=>by cases h)
   ·have hn:nrB es c.length j=true:=by simpa using hn
    refine (hu'.le l3).ints.rd (by omega) (by omega) ?_
    rw [Int.toNat_natCast]
    refine l08Apart_ok (by omega) (by omega) (by omega) (by omega) (asB_mk (nxt G3 _ (AHeap.le_trans lG' l3) (fun h _=>h) fun h=>?_))
    rw [← Bool.not_eq_true,fitC_iff]
    intro hh
    rw [hh j hjl (nrB_iff.1 hn)] at h;cases h
  ·have htk:t=k.toNat:=by have:=of_decide_eq_false hb;omega
   have hc0:c≠[]:=fun e=>by have:=ht0 e;omega
   have htr:tries k c=k.toNat:=by
    match c,hc0 with
    | _::_,_=>rfl
   have hO:cirO es k d (r+1) c=none:=by rw [cirO_succ,htr,← htk];exact hnone
   unfold F87.B1
   have:=kk (.slice none 0 0) G lHG
   rw [hO] at this
   exact this rfl
noncomputable def coC (n:Int) (es:List (Int × Int)) (k d:Int):Int:=if IsG n es then (if cirK k d then (if n>10 then 3 else (if cirO es k d es.length []=none then 4 else 0)) else 2) else 1
noncomputable def coL (n:Int) (es:List (Int × Int)) (k d:Int):List Int:=if coC n es k d=0 then (cirO es k d es.length []).getD [] else []
theorem smallCode2_ok {x:Int} {b:Bool} (h:Edges H v es) (hl:es.length≤1048576) (kk:∀ G,H.le G→K (.int .i64 (if IsG n es then (if b then (if n>x then 3 else 0) else 2) else 1)) G):AC Tryz.prog T0 72 [.agg ⟨[.int .i64 n,v]⟩,.bool b,.int .i64 x] H K:=by
 apply F72.ac
 unfold F72.B7
 refine newK_f (all_iv (edges_one' h)) fun H1 l1 n1' o1=>?_
 unfold F72.B6
 refine ldI_own o1 rfl (ld1_own o1 rfl (graphCode_ok (b:=b) (h.le l1) hl fun H2 l2=>asI_mk ?_))
 have kk:=kk H2 (AHeap.le_trans l1 l2)
 unfold F72.B5
 by_cases hg:IsG n es
 ·rw [if_pos hg] at kk ⊢
  cases b with
  | true=>
   simp only [if_true] at kk ⊢
   refine pif_f rfl ?_
   unfold F72.B3
   refine ldI_own (o1.le l2) rfl (pif_cases (fun hc=>?_) fun hc=>?_)
   ·rw [if_pos (of_decide_eq_true hc)] at kk
    unfold F72.B2
    exact kk
   ·rw [if_neg (of_decide_eq_false hc)] at kk
    unfold F72.B1
    exact kk
  | false=>
   simp only [Bool.false_eq_true,if_false] at kk ⊢
   refine pif_t rfl ?_
   unfold F72.B4
   exact kk
 ·rw [if_neg hg] at kk ⊢
  refine pif_t rfl ?_
  unfold F72.B4
  exact kk
theorem co_zero' (h:coC n es k d=0):IsG n es∧cirK k d=true∧n≤10∧∃ l,cirO es k d es.length []=some l∧coL n es k d=l:=by
 have h':=h
 unfold coC at h
 by_cases hg:IsG n es
 ·rw [if_pos hg] at h
  by_cases hk:cirK k d=true
  ·rw [if_pos hk] at h
   by_cases hn:n>10
   ·rw [if_pos hn] at h;cases h
   ·rw [if_neg hn] at h
    by_cases hO:cirO es k d es.length []=none
    ·rw [if_pos hO] at h;cases h
    ·obtain ⟨l,hl⟩:=Option.ne_none_iff_exists'.1 hO
     exact ⟨hg,hk,by omega,l,hl,by unfold coL;rw [if_pos h',hl];rfl⟩
  ·rw [if_neg hk] at h;cases h
 ·rw [if_neg hg] at h;cases h
theorem implCir_ok (h:Edges H v es) (hl:es.length≤1048576) (kk:∀ w G,H.le G→Fresh H.length G w 2 1 (LI (coL n es k d))→K (.tuple ⟨[w,.int .i64 (coC n es k d)]⟩) G) :
 AC Tryz.prog T0 26 [.agg ⟨[.int .i64 n,v]⟩,.int .i64 k,.int .i64 d] H K:=by
 apply F26.ac
 unfold F26.B8
 refine newK_f (all_iv (edges_one' h)) fun H1 l1 n1 o1=>?_
 have h1:=h.le l1
 have no:∀ G x,H.le G→coC n es k d=x→x≠0→K (.tuple ⟨[.slice none 0 0,.int .i64 x]⟩) G:=fun G x hG hx h0=>by
  have:=kk (.slice none 0 0) G hG (by unfold coL;rw [if_neg (by rw [hx];exact h0)];exact .inl ⟨rfl,.inl rfl⟩)
  rwa [hx] at this
 unfold F26.B7
 refine ldI_own o1 rfl (ld1_own o1 rfl (isCircle_ok (asB_mk ⟨AHeap.le_refl _,smallCode2_ok h1 hl fun H2 l2=>asI_mk ?_⟩)))
 have l02:=AHeap.le_trans l1 l2
 have o2:=o1.le l2
 unfold F26.B6
 by_cases hg:IsG n es
 ·rw [if_pos hg]
  by_cases hk:cirK k d=true
  ·rw [if_pos hk]
   by_cases hn:n>10
   ·rw [if_pos hn]
    refine pif_t rfl ?_
    unfold F26.B5
    exact no H2 3 l02 (by unfold coC;rw [if_pos hg,if_pos hk,if_pos hn]) (by decide)
   ·rw [if_neg hn]
    refine pif_f rfl ?_
    obtain ⟨hk1,hd1,hd2⟩:=cirK_iff.1 hk
    have hd3:Int.tdiv k 2≤7:=by rw [Int.tdiv_eq_ediv_of_nonneg (by omega)];omega
    have h30:es.length≤30:=by have:=hg.ed.len;have:=hg.ed.hi;omega
    have h00:0<es.length:=by have:=hg.ed.len;have:=hg.ed.lo;omega
    unfold F26.B4
    refine ldI_own o2 rfl (ld1_own o2 rfl (nearEdges_ok (h1.le l2) (by omega) fun w3 H3 l3 hR=>circle_ok (by omega) (by omega) fun c4 H4 l4 hc1 hC=>?_))
    have l34:=AHeap.le_trans l3 l4
    have l04:=AHeap.le_trans l02 l34
    have g4:=l04.1
    refine leastProper_ok h30 h00 hk1 (hR.le l4) hC hc1 fun w5 H5 L5 l5 f5 hL5 hsome=>tup2_mk (asB_mk ?_)
    have l05:=AHeap.le_trans l04 l5
    unfold F26.B3
    refine pif_cases (fun hs=>?_) fun hs=>?_
    ·have hO:cirO es k d es.length []=none:=by
      cases hx:cirO es k d es.length [] with
      | none=>rfl
      | some z=>rw [hx] at hs;cases hs
     unfold F26.B2
     exact no H5 4 l05 (by unfold coC;rw [if_pos hg,if_pos hk,if_neg hn,if_pos hO]) (by decide)
    ·have hO:cirO es k d es.length []≠none:=fun e=>by rw [e] at hs;cases hs
     have h0:coC n es k d=0:=by unfold coC;rw [if_pos hg,if_pos hk,if_neg hn,if_neg hO]
     obtain ⟨_,_,_,l,e1,e2⟩:=co_zero' h0
     have hLl:=hsome l e1
     unfold F26.B1
     have:=kk w5 H5 l05 (by rw [e2,← hLl];exact f5.less g4)
     rwa [h0] at this
  ·rw [if_neg hk]
   refine pif_t rfl ?_
   unfold F26.B5
   exact no H2 2 l02 (by unfold coC;rw [if_pos hg,if_neg hk]) (by decide)
 ·rw [if_neg hg]
  refine pif_t rfl ?_
  unfold F26.B5
  exact no H2 1 l02 (by unfold coC;rw [if_neg hg]) (by decide)
theorem specCir_ok (h:Edges H v es) (hl:es.length≤1048576) (kk:∀ w G,H.le G→Fresh H.length G w 2 1 (LI (coL n es k d))→K (.tuple ⟨[w,.int .i64 (coC n es k d)]⟩) G) :
 AC Tryz.prog T0 27 [.agg ⟨[.int .i64 n,v]⟩,.int .i64 k,.int .i64 d] H K:=by
 apply F27.ac
 unfold F27.B11
 refine newK_f (all_iv (edges_one' h)) fun H1 l1 n1 o1=>?_
 have no:∀ G x,H.le G→coC n es k d=x→x≠0→K (.tuple ⟨[.slice none 0 0,.int .i64 x]⟩) G:=fun G x hG hx h0=>by
  have:=kk (.slice none 0 0) G hG (by unfold coL;rw [if_neg (by rw [hx];exact h0)];exact .inl ⟨rfl,.inl rfl⟩)
  rwa [hx] at this
 unfold F27.B10
 refine ldI_own o1 rfl (ld1_own o1 rfl (l01Is_ok (h.le l1) hl fun H2 l2=>asB_mk (pif_cases (fun hg=>?_) fun hg=>?_)))
 ·have hg:¬ IsG n es:=by rw [Bool.not_eq_true'] at hg;exact of_decide_eq_false hg
  unfold F27.B5
  exact no H2 1 (AHeap.le_trans l1 l2) (by unfold coC;rw [if_neg hg]) (by decide)
 have hg:IsG n es:=by rw [Bool.not_eq_false'] at hg;exact of_decide_eq_true hg
 have l02:=AHeap.le_trans l1 l2
 have o2:=o1.le l2
 unfold F27.B9
 refine l08Numbers_ok (asB_mk (pif_cases (fun hk=>?_) fun hk=>?_))
 ·have hk:¬ cirK k d=true:=by simpa using hk
  unfold F27.B6
  exact no H2 2 l02 (by unfold coC;rw [if_pos hg,if_neg hk]) (by decide)
 have hk:cirK k d=true:=by simpa using hk
 unfold F27.B8
 refine ldI_own o2 rfl (pif_cases (fun hn=>?_) fun hn=>?_)
 ·have hn:n>10:=of_decide_eq_true hn
  unfold F27.B7
  exact no H2 3 l02 (by unfold coC;rw [if_pos hg,if_pos hk,if_pos hn]) (by decide)
 have hn:¬ n>10:=of_decide_eq_false hn
 obtain ⟨hk1,hd1,hd2⟩:=cirK_iff.1 hk
 have hd3:Int.tdiv k 2≤7:=by rw [Int.tdiv_eq_ediv_of_nonneg (by omega)];omega
 have h30:es.length≤30:=by have:=hg.ed.len;have:=hg.ed.hi;omega
 unfold F27.B4
 refine ldI_own o2 rfl (ld1_own o2 rfl (newK_f rfl fun H3 l3 n3 o3=>?_))
 have l03:=AHeap.le_trans l02 l3
 have g2:=l02.1
 have f3:Fresh H.length H3 (.slice (some ⟨H2.length,0,none⟩) 0 (0+1)) 2 1 (LI []):=.inr ⟨_,0,g2,rfl,o3,rfl⟩
 refine l08Circular_ok (H0:=H) h30 h hk1 (by omega) es.length [] _ H3 H.length _ (by simp) l03 f3 l03.1 (fun j hj=>absurd hj (by simp)) fun w4 H4 l4 hw=>tup2_mk (asB_mk ?_)
 have l04:=AHeap.le_trans l03 l4
 unfold F27.B3
 refine pif_cases (fun hs=>?_) fun hs=>?_
 ·have hO:cirO es k d es.length []=none:=by
   cases hx:cirO es k d es.length [] with
   | none=>rfl
   | some z=>rw [hx] at hs;cases hs
  unfold F27.B2
  exact no H4 4 l04 (by unfold coC;rw [if_pos hg,if_pos hk,if_neg hn,if_pos hO]) (by decide)
 ·have hO:cirO es k d es.length []≠none:=fun e=>by rw [e] at hs;cases hs
  have h0:coC n es k d=0:=by unfold coC;rw [if_pos hg,if_pos hk,if_neg hn,if_neg hO]
  obtain ⟨_,_,_,l,e1,e2⟩:=co_zero' h0
  rw [e1] at hw
  unfold F27.B1
  have:=kk w4 H4 l04 (by rw [e2];exact hw)
  rwa [h0] at this
end Go.Proofs
namespace Go.Proofs
open Go.Abs

variable {H G G' Hb H0:AHeap} {v u f w:Value} {l m c D:List Int} {es fs:List (Int × Int)} {K:Value→AHeap→Prop} {bs:Nat} {n:Int}

theorem l08DrawSmall_ok (hs:Src Hb bs H) (k:∀ v' n' es' G,Kb bs H G→Src Hb bs G→Sl H.length G v' 28 2 (LE es')→es'.length≤2000→K (.agg ⟨[.int .i64 n',v']⟩) G):AC Tryz.prog T0 77 [.pointer (some ⟨bs,0,none⟩)] H K:=by
 have hbs:=hs.lt
 apply F77.ac
 unfold F77.B4
 refine newK_f rfl fun H1 l1 n1 o1=>?_
 have hlt:=o1.lt
 have fin:∀ G v' n' es',Kb bs H1 G→Src Hb bs G→Sl H1.length G v' 28 2 (LE es')→es'.length≤2000→stK G H.length 0 [.int .i64 n',v'] (fun H7=>ldI .i64 H7 H.length 0 (fun v8=>ld1 H7 H.length 1 (fun v9=>K (.agg ⟨[.int .i64 v8,v9]⟩) H7))):=fun G v' n' es' kb s h hc=>by
  refine draw_tail s ((Kb.of_le l1).trans kb) hbs (Nat.le_refl _) (kb.own o1 (by omega)) (sl_one h) fun G9 b9 kb9 s9=>k v' n' es' G9 kb9 s9 ((h.but b9 (by omega)).less (by omega)) hc
 unfold F77.B3
 refine l01Next_ok (hs.le l1) fun r G1 k1 s1 _ _ _=>asI_mk (pif_cases (fun _=>?_) fun _=>?_)
 ·unfold F77.B2
  have hk:=k1.len
  exact l01Spoil_ok s1 fun v2 n2 es2 G2 k2 s2 h2 c2 _ _=>agg2_mk (asI_mk (fin G2 v2 n2 es2 (k1.trans k2) s2 (h2.less (by omega)) c2))
 ·unfold F77.B1
  have hk:=k1.len
  exact l01Small_ok s1 fun v2 n2 es2 G2 k2 s2 f2 g2 _ _=>agg2_mk (asI_mk (fin G2 v2 n2 es2 (k1.trans k2) s2 (f2.sl.less (by omega)) (by have:=g2.len;omega)))
theorem drawRes_ok (hB:Byts H u l) (hl:l.length≤4096) (k:DrwK H K):AC Tryz.prog T0 20 [u] H K:=by
 apply F20.ac
 unfold F20.B2
 refine newK_f rfl fun H1 l1 n1 o1=>?_
 unfold F20.B1
 refine l01From_ok (hB.le l1) hl fun G1 g1 s1=>l08DrawSmall_ok s1 fun v2 n2 es2 G2 k2 s2 h2 c2=>agg2_mk (asI_mk ?_)
 have hs1:=s1.lt
 have hlt:=o1.lt
 exact put_graph (k2.own (o1.le g1) (by omega)) (AHeap.le_trans l1 s2.1) (Nat.le_refl _) h2 (by omega) fun G' _ lG eG=>k v2 n2 es2 G' lG (eG.less (by omega)) c2
theorem l08Numbers_draw (hs:Src Hb bs H) (k:∀ x y G,Kb bs H G→Src Hb bs G→0≤x→x≤20→0≤y→y≤20→K (.tuple ⟨[.int .i64 x,.int .i64 y]⟩) G):AC Tryz.prog T0 81 [.pointer (some ⟨bs,0,none⟩)] H K:=by
 have hbs:=hs.lt
 apply F81.ac
 unfold F81.B6 F81.B5
 refine l01Next_ok hs fun r G1 k1 s1 _ _ _=>asI_mk (pif_cases (fun _=>?_) fun _=>?_)
 ·unfold F81.B4
  refine l01Next_ok s1 fun x G2 k2 s2 x0 x1 _=>asI_mk (l01Next_ok s2 fun y G3 k3 s3 y0 y1 _=>asI_mk ?_)
  have:=x1 (by omega)
  have:=y1 (by omega)
  exact k x y G3 ((k1.trans k2).trans k3) s3 x0 (by omega) y0 (by omega)
 ·unfold F81.B3
  refine newK_f rfl fun G2 l2 n2 o2=>?_
  have hs1:=s1.lt
  obtain ⟨P,hP⟩:∃ P:List Int,P=[3,1,4,1,7,2,10,3,11,3,13,4,5,2,8,2]:=⟨_,rfl⟩
  have o2:Own G2 G1.length 2 (LI P):=by rw [hP];exact o2
  have hPl:P.length=16:=by rw [hP];rfl
  have hPr:∀ x∈P,0≤x∧x≤20:=by rw [hP];decide
  unfold F81.B2
  refine l01Next_ok (s1.le l2) fun q G3 k3 s3 q0 q1 _=>asI_mk ?_
  have hq:=q1 (by omega)
  have o3:=k3.own o2 (by omega)
  have hi:Ints G3 (.slice (some ⟨G1.length,0,none⟩) 16 (16+1)) P:=by rw [← hPl];exact own_ints o3
  rw [wrap_id (by omega) (by omega)]
  unfold F81.B1
  refine hi.rd (by omega) (by omega) ?_
  rw [wrap_id (by omega) (by omega)]
  refine hi.rd (by omega) (by omega) ?_
  have h1:=hPr (P.getD (2*q).toNat 0) (by rw [getD_of (by omega)];exact List.getElem_mem _)
  have h2:=hPr (P.getD (2*q+1).toNat 0) (by rw [getD_of (by omega)];exact List.getElem_mem _)
  exact k _ _ G3 ((k1.trans (.of_le l2)).trans k3) s3 h1.1 h1.2 h2.1 h2.2
def DrwN (H:AHeap) (K:Value→AHeap→Prop):Prop:=∀ v n es (x y:Int) G,H.le G→Sl H.length G v 28 2 (LE es)→es.length≤2000→0≤x→x≤2010→0≤y→y≤2010→K (.tuple ⟨[.agg ⟨[.int .i64 n,v]⟩,.int .i64 x,.int .i64 y]⟩) G
theorem drawCir_ok (hB:Byts H u l) (hl:l.length≤4096) (k:DrwN H K):AC Tryz.prog T0 25 [u] H K:=by
 apply F25.ac
 unfold F25.B5
 refine newK_f rfl fun H1 l1 n1 o1=>?_
 unfold F25.B4
 refine l01From_ok (hB.le l1) hl fun G1 g1 s1=>?_
 have hs1:=s1.lt
 have hlt:=o1.lt
 unfold F25.B3
 refine l08DrawSmall_ok s1 fun v2 n2 es2 G2 k2 s2 h2 c2=>agg2_mk (asI_mk (newK_f rfl fun G4 l4 n4 o4=>stK_f (new:=[.int .i64 n2,v2]) o4 (by simp) (mem_iv (sl_one h2)) rfl fun G5 b5 o5=>?_))
 have l5:G2.le G5:=b5.le l4 (Nat.le_refl _)
 have ob5:=(k2.own (o1.le g1) (by omega)).le l5
 have hs2:=s2.lt
 have hl5:=l5.1
 have h5:Sl (H1.length+1) G5 v2 28 2 (LE es2):=(h2.le l5).less (by omega)
 unfold F25.B2
 refine l08Numbers_draw (s2.le l5) fun x y G6 k6 s6 x0 x1 y0 y1=>tup2_mk (asI_mk (asI_mk ?_))
 have o6:=k6.own o5 (by omega)
 have ob6:=k6.own ob5 (by omega)
 have h6:=sl_kb h5 k6
 unfold F25.B1
 refine ldI_own o6 rfl (ld1_own o6 rfl (stK_f (new:=[.int .i64 n2,v2]) ob6 (by simp) (mem_iv (sl_one h6)) rfl fun G7 b7 o7=>ldI_own o7 rfl (ld1_own o7 rfl ?_)))
 exact k v2 n2 es2 x y G7 (b7.le (AHeap.le_trans l1 s6.1) (Nat.le_refl _)) ((h6.but b7 (by omega)).less (by omega)) c2 x0 (by omega) y0 (by omega)
theorem drawClose_ok (hB:Byts H u l) (hl:l.length≤4096) (k:DrwN H K):AC Tryz.prog T0 31 [u] H K:=by
 apply F31.ac
 unfold F31.B5
 refine newK_f rfl fun H1 l1 n1 o1=>?_
 unfold F31.B4
 refine l01From_ok (hB.le l1) hl fun G1 g1 s1=>?_
 have hs1:=s1.lt
 have hlt:=o1.lt
 unfold F31.B3
 refine l01Spoil_ok s1 fun v2 n2 es2 G2 k2 s2 h2 c2 _ _=>agg2_mk (asI_mk (newK_f rfl fun G4 l4 n4 o4=>stK_f (new:=[.int .i64 n2,v2]) o4 (by simp) (mem_iv (sl_one h2)) rfl fun G5 b5 o5=>?_))
 have l5:G2.le G5:=b5.le l4 (Nat.le_refl _)
 have ob5:=(k2.own (o1.le g1) (by omega)).le l5
 have hs2:=s2.lt
 have hl5:=l5.1
 have h5:Sl (H1.length+1) G5 v2 28 2 (LE es2):=(h2.le l5).less (by omega)
 unfold F31.B2
 refine ld1_own o5 rfl ((sl_edges h5).len ?_)
 unfold F31.B1
 refine ldI_own o5 rfl (ld1_own o5 rfl (l01Next_ok (s2.le l5) fun a G6 k6 s6 a0 a1 _=>asI_mk ⟨?_,?_⟩))
 ·have o6:=k6.own o5 (by omega)
  exact ldI_own o6 rfl (ld1_own o6 rfl ⟨rfl,rfl⟩)
 have o6:=k6.own o5 (by omega)
 have ha:=a1 (by omega)
 have ht:0≤Int.tdiv a 11∧Int.tdiv a 11≤1:=by rw [Int.tdiv_eq_ediv_of_nonneg a0];omega
 rw [wrap_id (x:=Int.tdiv a 11) (by omega) (by omega),wrap_id (by omega) (by omega)]
 refine l01Next_ok s6 fun x G7 k7 s7 x0 x1 xz=>asI_mk ⟨?_,?_⟩
 ·have o7:=k7.own o6 (by omega)
  exact ldI_own o7 rfl (ld1_own o7 rfl ⟨rfl,rfl⟩)
 have o7:=k7.own o6 (by omega)
 refine l01Next_ok s7 fun y G8 k8 s8 y0 y1 yz=>asI_mk ⟨?_,?_⟩
 ·have o8:=k8.own o7 (by omega)
  exact ldI_own o8 rfl (ld1_own o8 rfl ⟨rfl,rfl⟩)
 have kk:=(k6.trans k7).trans k8
 have ob8:=kk.own ob5 (by omega)
 have h8:=sl_kb h5 kk
 refine stK_f (new:=[.int .i64 n2,v2]) ob8 (by simp) (mem_iv (sl_one h8)) rfl fun G9 b9 o9=>ldI_own o9 rfl (ld1_own o9 rfl ?_)
 have hx:x≤2010:=by
  by_cases hh:1≤(es2.length:Int)+Int.tdiv a 11
  ·have:=x1 hh;omega
  ·have:=xz (by omega);omega
 have hy:y≤2010:=by
  by_cases hh:1≤(es2.length:Int)
  ·have:=y1 hh;omega
  ·have:=yz (by omega);omega
 exact k v2 n2 es2 x y G9 (b9.le (AHeap.le_trans l1 s8.1) (Nat.le_refl _)) ((h8.but b9 (by omega)).less (by omega)) c2 x0 hx y0 hy
theorem coL_len {k d:Int} (h:coC n es k d=0):(coL n es k d).length=es.length∧IsCi es k d (coL n es k d) es.length∧(coL n es k d).getD 0 0=0∧0<es.length:=by
 obtain ⟨hg,hk,hn,l,e1,e2⟩:=co_zero' h
 obtain ⟨hk1,hd1,hd2⟩:=cirK_iff.1 hk
 have h0:0<es.length:=by have:=hg.ed.len;have:=hg.ed.lo;omega
 have hs:=cirO_sound (es:=es) (k:=k) (d:=d) (by omega) es.length [] ⟨rfl,fun j hj=>absurd hj (by simp),fun e he=>absurd he (by simp)⟩ l e1
 rw [List.length_nil,Nat.zero_add] at hs
 rw [e2]
 refine ⟨hs.1.len,hs.1,?_,h0⟩
 obtain ⟨m,hm⟩:∃ m,es.length=m+1:=⟨es.length-1,by omega⟩
 rw [hm,cirO] at e1
 obtain ⟨x,hx,e1⟩:=List.exists_of_findSome?_eq_some e1
 have hx0:x=0:=by
  rw [List.mem_range] at hx
  have hx:x<1:=hx
  omega
 subst hx0
 split at e1
 ·have hc0:IsCi es k d ([]++[((0:Nat):Int)]) ([]++[((0:Nat):Int)]).length:=⟨rfl,fun j hj=>by
   have:j=0:=by simp at hj;omega
   subst this
   show (0:Int)≤0∧(0:Int)≤k-1
   omega,fun e he f hf=>by
   have:e=0:=by simp at he;omega
   omega⟩
  obtain ⟨R,hR⟩:=(cirO_sound (es:=es) (k:=k) (d:=d) (by omega) m _ hc0 l e1).2
  rw [hR];rfl
 ·cases e1
def DrwC (H:AHeap) (K:Value→AHeap→Prop):Prop:=∀ v n es (x y:Int) w la G,H.le G→Sl H.length G v 28 2 (LE es)→es.length≤2000→Fresh H.length G w 2 1 (LI la)→la.length≤3000→K (.tuple ⟨[.agg ⟨[.int .i64 n,v]⟩,.int .i64 x,.int .i64 y,w]⟩) G
theorem drawIsCir_ok (hB:Byts H u l) (hl:l.length≤4096) (k:DrwC H K):AC Tryz.prog T0 28 [u] H K:=by
 apply F28.ac
 unfold F28.B17
 refine newK_f rfl fun H1 l1 n1 o1=>?_
 unfold F28.B16
 refine l01From_ok (hB.le l1) hl fun G1 g1 s1=>?_
 have hs1:=s1.lt
 have hlt:=o1.lt
 unfold F28.B15
 refine l08DrawSmall_ok s1 fun v2 n2 es2 G2 k2 s2 h2 c2=>agg2_mk (asI_mk (newK_f rfl fun G4 l4 n4 o4=>stK_f (new:=[.int .i64 n2,v2]) o4 (by simp) (mem_iv (sl_one h2)) rfl fun G5 b5 o5=>?_))
 have l5:G2.le G5:=b5.le l4 (Nat.le_refl _)
 have ob5:=(k2.own (o1.le g1) (by omega)).le l5
 have hs2:=s2.lt
 have hl5:=l5.1
 have h5:Sl (H1.length+1) G5 v2 28 2 (LE es2):=(h2.le l5).less (by omega)
 unfold F28.B14
 refine l08Numbers_draw (s2.le l5) fun x y G6 k6 s6 x0 x1 y0 y1=>tup2_mk (asI_mk (asI_mk ?_))
 have o6:=k6.own o5 (by omega)
 have ob6:=k6.own ob5 (by omega)
 have h6:=sl_kb h5 k6
 have hk6:=k6.len
 -- the end: with a list
 have tail:∀ G w la,Kb H1.length G6 G→Src H1 H1.length G→Fresh (H.length+1) G w 2 1 (LI la)→la.length≤3000→ldI .i64 G G2.length 0 (fun v1=>ld1 G G2.length 1 (fun v2=>stK G H.length 0 [.int .i64 v1,v2] (fun H3=>ldI .i64 H3 H.length 0 (fun v4=>ld1 H3 H.length 1 (fun v5=>K (.tuple ⟨[.agg ⟨[.int .i64 v4,v5]⟩,.int .i64 x,.int .i64 y,w]⟩) H3))))):=fun G w la kG sG fw hla=>by
  have oG:=kG.own o6 (by omega)
  have obG:=kG.own ob6 (by omega)
  have hG:=sl_kb h6 kG
  refine ldI_own oG rfl (ld1_own oG rfl (stK_f (new:=[.int .i64 n2,v2]) obG (by simp) (mem_iv (sl_one hG)) rfl fun G7 b7 o7=>ldI_own o7 rfl (ld1_own o7 rfl ?_)))
  exact k v2 n2 es2 x y w la G7 (b7.le (AHeap.le_trans l1 sG.1) (Nat.le_refl _)) ((hG.but b7 (by omega)).less (by omega)) c2 ((fw.but b7 (by omega)).less (by omega)) hla
 -- a list of drawn numbers
 have seven:∀ G,Kb H1.length G6 G→Src H1 H1.length G→F28.B7 K H.length (.pointer (some ⟨H1.length,0,none⟩)) G2.length x y G:=fun G kG sG=>by
  unfold F28.B7
  have hsG:=sG.lt
  have hkG:=kG.len
  refine newK_f rfl fun G7 l7 n7 o7=>?_
  have f7:Fresh G6.length G7 (.slice (some ⟨G.length,0,none⟩) 0 (0+1)) 2 1 (LI []):=.inr ⟨_,0,hkG,rfl,o7,rfl⟩
  unfold F28.B6 F28.L2
  refine ⟨fun a2 a6 a7 a8 a9 a13 a14 G'=>H.length=a2∧.pointer (some ⟨H1.length,0,none⟩)=a6∧G2.length=a7∧x=a8∧y=a9∧Kb H1.length G6 G'∧Src H1 H1.length G'∧∃ (i:Nat) (la:List Int),a14=i∧i≤es2.length+1∧la.length=i∧Fresh G6.length G' a13 2 1 (LI la),fun _ _ _ _ _ _ a14 _=>es2.length+1-a14.toNat,⟨rfl,rfl,rfl,rfl,rfl,kG.trans (.of_le l7),sG.le l7,0,[],rfl,by omega,rfl,f7⟩,?_⟩
  rintro a2 a6 a7 a8 a9 a13 a14 G' ⟨rfl,rfl,rfl,rfl,rfl,kG',sG',i,la,rfl,hi,hla,fa⟩
  have o':=kG'.own o6 (by omega)
  have h':=sl_kb h6 kG'
  unfold F28.B5
  refine ld1_own o' rfl ((sl_edges h').len (l01Next_ok sG' fun a G8 k8 s8 a0 a1 _=>asI_mk ⟨?_,?_⟩))
  ·exact ld1_own (k8.own o' (by omega)) rfl ⟨rfl,rfl⟩
  have ha:=a1 (by omega)
  have ht:0≤Int.tdiv a 11∧Int.tdiv a 11≤1:=by rw [Int.tdiv_eq_ediv_of_nonneg a0];omega
  rw [wrap_id (x:=Int.tdiv a 11) (by omega) (by omega),wrap_id (by omega) (by omega)]
  have kk8:=kG'.trans k8
  have fa8:=fresh_kb fa k8 (by omega)
  refine pif_cases (fun hc=>?_) fun hc=>?_
  ·have hil:i<es2.length+1:=by have:=of_decide_eq_true hc;omega
   unfold F28.B4
   refine l01Next_ok s8 fun z G9 k9 s9 _ _ _=>asI_mk ?_
   have fa9:=fresh_kb fa8 k9 (by omega)
   have kk9:=kk8.trans k9
   have hs9:=s9.lt
   have hk9:=kk9.len
   refine fa9.sl.pushN E_int (by decide) hk9 (n:=1) (ys:=[.int .i64 z]) rfl rfl (by simp;omega) (by simp) fun w' G10 k10 ot10 nb10 f10=>?_
   unfold F28.B3
   rw [wrap_id (by omega) (by omega)]
   exact ⟨⟨rfl,rfl,rfl,rfl,rfl,kk9.keep k10,s9.keep k10 (by omega),i+1,la++[z],by omega,by omega,by simp [hla],by simpa using f10⟩,by simp;omega⟩
  ·unfold F28.B1
   exact tail G8 a13 la kk8 s8 (fa8.less (by omega)) (by omega)
 have hs6:=s6.lt
 unfold F28.B13
 refine ldI_own o6 rfl (ld1_own o6 rfl (specCir_ok (sl_edges h6) (by omega) fun w8 G8 l8 f8=>tup2_mk (asI_mk ?_)))
 have kb8:Kb H1.length G6 G8:=.of_le l8
 have s8:=s6.le l8
 have hl8:=l8.1
 unfold F28.B12
 refine pif_cases (fun hc=>?_) fun _=>seven G8 kb8 s8
 have h0:coC n2 es2 x y=0:=beq_iff_eq.1 hc
 obtain ⟨hcl,_,_,hpos⟩:=coL_len h0
 refine l01Next_ok s8 fun q G9 k9 s9 _ _ _=>asI_mk (pif_cases (fun _=>?_) fun _=>seven G9 (kb8.trans k9) s9)
 have f9:=fresh_kb f8 k9 (by omega)
 have hk9:=k9.len
 unfold F28.B11
 refine l01Own_ok f9.ints (by omega) fun w10 G10 l10 f10=>?_
 obtain ⟨b10,hb10,rfl,ow⟩:∃ b,G9.length≤b∧w10=.slice (some ⟨b,0,none⟩) es2.length (es2.length+1)∧Own G10 b 2 (LI (coL n2 es2 x y)):=by
  rcases f10 with ⟨e,_⟩|⟨b,n,hb,rfl,h3,h4⟩
  ·have:=congrArg List.length e
   rw [List.length_map,List.length_nil] at this;omega
  ·have:n=es2.length:=by simp at h4;omega
   subst this
   exact ⟨b,hb,rfl,h3⟩
 have kb10:=(kb8.trans k9).trans (.of_le l10)
 have s10:=s9.le l10
 have hs9:=s9.lt
 have fin:∀ G L,Kb H1.length G6 G→Src H1 H1.length G→Own G b10 2 (LI L)→L.length=es2.length→F28.B8 K H.length G2.length x y (.slice (some ⟨b10,0,none⟩) es2.length (es2.length+1)) G:=fun G L kG sG oL hL=>by
  unfold F28.B8
  exact tail G _ L kG sG (.inr ⟨b10,es2.length,by omega,rfl,oL,by simp [hL]⟩) (by omega)
 unfold F28.B10
 refine l01Next_ok s10 fun t G11 k11 s11 _ _ _=>asI_mk (pif_cases (fun _=>?_) fun _=>fin G11 _ (kb10.trans k11) s11 (k11.own ow (by omega)) hcl)
 unfold F28.B9
 refine lenK_of (l01Next_ok s11 fun p G12 k12 s12 p0 p1 _=>asI_mk ?_)
 have hp:=p1 (by omega)
 rw [wrap_id (by omega) (by omega)]
 refine l01Next_ok s12 fun z G13 k13 s13 _ _ _=>asI_mk ?_
 have kk13:=((kb10.trans k11).trans k12).trans k13
 have ow13:=((k11.trans k12).trans k13).own ow (by omega)
 refine own_idx (by omega) (by omega) (stK_1 ow13 (by simp;omega) rfl fun G14 b14 o14=>?_)
 have o14:Own G14 b10 2 (LI ((coL n2 es2 x y).set p.toNat z)):=by simpa using o14
 exact fin G14 _ (kk13.but b14 (by omega)) (s13.but b14 (by omega)) o14 (by simpa using hcl)
end Go.Proofs
namespace Go.Proofs
open Go.Abs

variable {H G:AHeap} {v u f:Value} {l m c D:List Int} {es fs:List (Int × Int)} {K:Value→AHeap→Prop}

noncomputable def ptL (es:List (Int × Int)):List Int→List Int→List (List Int)
 | [],c=>[c]
 | i::E,c=>if c.getD i.toNat 0=-1 then (List.range 3).flatMap fun x:Nat=>if clashB es c i.toNat (x:Int) then [] else ptL es E (c.set i.toNat (x:Int)) else ptL es E c
noncomputable def ptTo (es:List (Int × Int)) (E:List Int) (i:Nat) (c:List Int) (t:Nat):List (List Int):=(List.range t).flatMap fun x:Nat=>if clashB es c i (x:Int) then [] else ptL es E (c.set i (x:Int))
theorem ptL_cons {i:Nat} {E c:List Int} (h:c.getD i 0=-1):ptL es ((i:Int)::E) c=ptTo es E i c 3:=by
 rw [ptL,Int.toNat_natCast,if_pos h];rfl
theorem ptL_skip {i:Nat} {E c:List Int} (h:c.getD i 0≠-1):ptL es ((i:Int)::E) c=ptL es E c:=by
 rw [ptL,Int.toNat_natCast,if_neg h]
theorem ptTo_succ {E:List Int} {i:Nat} {c:List Int} (t:Nat):ptTo es E i c (t+1)=ptTo es E i c t++if clashB es c i (t:Int) then [] else ptL es E (c.set i (t:Int)):=by
 unfold ptTo
 rw [List.range_succ,List.flatMap_append]
 simp
theorem ptTo_le {E:List Int} {i:Nat} {c:List Int} {t s:Nat} (h:t≤s):(ptTo es E i c t).length≤(ptTo es E i c s).length:=by
 obtain ⟨d,rfl⟩:∃ d,s=t+d:=⟨s-t,by omega⟩
 clear h
 induction d with
 | zero=>exact Nat.le_refl _
 | succ d ih=>
  rw [← Nat.add_assoc,ptTo_succ,List.length_append];omega
structure Fnd (X:Nat→Prop) (G G':AHeap):Prop where
 len:G.length≤G'.length
 old:∀ (b:Nat) (o:AObj),¬ X b→G[b]?=some (some o)→G'[b]?=some (some o)
theorem Fnd.refl {X:Nat→Prop}:Fnd X G G:=⟨Nat.le_refl _,fun _ _ _ h=>h⟩
theorem Fnd.le {X:Nat→Prop} {G':AHeap} (h:G.le G'):Fnd X G G':=⟨h.1,fun b o _ ho=>h.2 b o ho⟩
theorem Fnd.trans {X:Nat→Prop} {G' G2:AHeap} (h:Fnd X G G') (k:Fnd X G' G2):Fnd X G G2:=⟨Nat.le_trans h.len k.len,fun b o hb ho=>k.old b o hb (h.old b o hb ho)⟩
theorem Fnd.own {X:Nat→Prop} {G':AHeap} {b:Nat} {t:TypeId} {cs:List Value} (h:Fnd X G G') (o:Own G b t cs) (hb:¬ X b):Own G' b t cs:=h.old b _ hb o
theorem Fnd.base {X:Nat→Prop} {H0 G':AHeap} (h:Fnd X G G') (h0:H0.le G) (hX:∀ (b:Nat) (o:AObj),H0[b]?=some (some o)→¬ X b):H0.le G':=⟨Nat.le_trans h0.1 h.len,fun b o ho=>h.old b o (hX b o ho) (h0.2 b o ho)⟩
theorem Two.fnd {X:Nat→Prop} {cb ub:Nat} {G G4 G5 G6:AHeap} {tc tu:TypeId} {xs ys:List Value} (h1:Two cb ub G G4) (h2:Fnd X G4 G5) (h3:Two cb ub G5 G6) (c1:Own G cb tc xs) (c2:Own G6 cb tc xs) (u1:Own G ub tu ys) (u2:Own G6 ub tu ys):Fnd X G G6:=by
 refine ⟨Nat.le_trans h1.len (Nat.le_trans h2.len h3.len),fun b o hX ho=>?_⟩
 by_cases e1:b=cb
 ·subst e1
  have:=c1.symm.trans ho
  rw [← Option.some.inj (Option.some.inj this)];exact c2
 ·by_cases e2:b=ub
  ·subst e2
   have:=u1.symm.trans ho
   rw [← Option.some.inj (Option.some.inj this)];exact u2
  ·exact h3.old b o e1 e2 (h2.old b o hX (h1.old b o e1 e2 ho))
section
variable {n:Int} {H0:AHeap} {pb cb ub:Nat} {tP:TypeId} {qE fV:Value} {X:Nat→Prop} {J:List (List Int)→AHeap→Prop} {q:List Int→Bool} {N Bd:Nat}
structure Caller (es:List (Int × Int)) (H0:AHeap) (pb cb ub:Nat) (fV:Value) (X:Nat→Prop) (Bd:Nat) (J:List (List Int)→AHeap→Prop) (q:List Int→Bool) (N:Nat):Prop where
 x0:∀ (b:Nat) (o:AObj),H0[b]?=some (some o)→¬ X b
 xp:¬ X pb
 xc:¬ X cb
 xu:¬ X ub
 xb:∀ b,X b→b<Bd
 st:∀ done (G G':AHeap),J done G→Two cb ub G G'→J done G'
 call:∀ done c' (G:AHeap),H0.le G→Own G cb 2 (LI c')→c'.length=es.length→J done G→done.length<N→∀ K:Value→AHeap→Prop,(∀ G',Fnd X G G'→J (done++[c']) G'→K (.bool (q c')) G')→callV Tryz.prog T0 fV [.slice (some ⟨cb,0,none⟩) es.length (es.length+1)] G K
theorem paintG_ok {E:List Int} (hC:Caller es H0 pb cb ub fV X Bd J q N) (hg:IsG n es) (he:Edges H0 v es) (hE:Ints H0 qE E) (hEl:E.length≤1000) (hEr:∀ x∈E,0≤x∧x<es.length) (hcb:H0.length≤cb) (hub:H0.length≤ub) (hne:cb≠ub) (hp1:pb≠cb) (hp2:pb≠ub) :
    ∀ (r k:Nat) (c:List Int) (u:List Nat) (done:List (List Int)) (G:AHeap) (K:Value→AHeap→Prop),E.length≤k+r→k≤E.length→H0.le G→Bd≤G.length→Own G pb tP [.int .i64 n,v,qE,.slice (some ⟨cb,0,none⟩) es.length (es.length+1),.slice (some ⟨ub,0,none⟩) n.toNat (n.toNat+1),fV]→
      Own G cb 2 (LI c)→Own G ub 83 (LU u)→c.length=es.length→UsedOk es n.toNat c u→J done G→done.length+(ptL es (E.drop k) c).length≤N→(∀ G',Fnd X G G'→J (done++upTo q (ptL es (E.drop k) c)) G'→K (.bool ((ptL es (E.drop k) c).any q)) G')→
      AC Tryz.prog T0 179 [.pointer (some ⟨pb,0,none⟩),.int .i64 (k:Nat)] G K:=by
  have n0:=hg.ed.lo;have n1:=hg.ed.hi
  have h30:es.length≤30:=by have:=hg.ed.len;omega
  intro r
  induction r with
  | zero|succ r ih=>
    intro k0 c u done G K hkr hk0 h0 hBd oP oc ou hcl hU hJ hN kk
    have hEG:=hE.le h0
    have oi:=own_ints (c:=es.length+1) oc
    rw [hcl] at oi
    apply F179.ac
    unfold F179.B20 F179.L17
    refine ⟨fun x0 x1 G'=>.pointer (some ⟨pb,0,none⟩)=x0∧G=G'∧∃ k:Nat,x1=k∧k0≤k∧k≤E.length∧ptL es (E.drop k0) c=ptL es (E.drop k) c,fun _ x1 _=>E.length-x1.toNat,⟨rfl,rfl,k0,rfl,Nat.le_refl _,hk0,rfl⟩,?_⟩
    rintro x0 x1 G' ⟨rfl,rfl,k,rfl,hkk,hkE,hsame⟩
    rw [hsame] at hN kk
    have leaf:k=E.length→F179.B15 K (.pointer (some ⟨pb,0,none⟩)) G:=fun hk=>by
      unfold F179.B15
      rw [hk,List.drop_length] at hN kk
      have hN:done.length+1≤N:=hN
      refine nilK_mk (asP_mk (ld1_own oP rfl (nilK_mk (asP_mk (ld1_own oP rfl (hC.call done c G h0 oc hcl hJ (by omega) _ fun G' hG' hJ'=>asB_mk ?_))))))
      have kk:=kk G' hG'
      have e:[c].any q=q c:=by simp
      rw [show ptL es [] c=[c] from rfl,e] at kk
      refine kk ?_
      have e2:upTo q [c]=[c]:=by unfold upTo;cases q c <;> rfl
      rw [e2];exact hJ'
    unfold F179.B19
    refine nilK_mk (asP_mk (ld1_own oP rfl (hEG.len (pif_cases (fun hb=>?_) fun hb=>?_))))
    rotate_left
    · have hk:k=E.length:=by have:=of_decide_eq_false hb;omega
      unfold F179.B16
      exact nilK_mk (asP_mk (ld1_own oP rfl (hEG.len (pif_t (by rw [beq_iff_eq];omega) (leaf hk)))))
    have hk:k<E.length:=by have:=of_decide_eq_true hb;omega
    have hi:=hEr _ (List.getElem_mem hk)
    obtain ⟨i,hie⟩:∃ i:Nat,E[k]=(i:Int):=⟨(E[k]).toNat,by omega⟩
    have hget:E.getD k 0=(i:Int):=by rw [getD_of hk,hie]
    rw [hie] at hi
    have hil:i<es.length:=by omega
    have hdrop:E.drop k=(i:Int)::E.drop (k+1):=by rw [List.drop_eq_getElem_cons hk,hie]
    refine nilK_mk (asP_mk (ld1_own oP rfl (nilK_mk (asP_mk (ld1_own oP rfl (hEG.rd (by omega) (by omega) ?_))))))
    rw [Int.toNat_natCast,hget]
    refine oi.rd (by omega) (by omega) ?_
    rw [Int.toNat_natCast]
    refine pif_cases (fun hb=>?_) fun hb=>?_
    · have hci:=bne_iff_ne.1 hb
      unfold F179.B18
      rw [wrap_id (by omega) (by omega)]
      refine ⟨⟨rfl,rfl,k+1,by omega,by omega,by omega,?_⟩,by simp;omega⟩
      rw [hsame,hdrop,ptL_skip hci]
    have hci:c.getD i 0=-1:=bne_eq_false_iff_eq.1 hb
    unfold F179.B16
    refine nilK_mk (asP_mk (ld1_own oP rfl (hEG.len (pif_f (by rw [beq_eq_false_iff_ne];omega) ?_))))
    unfold F179.B14
    refine nilK_mk (asP_mk (ld1_own oP rfl (hEG.rd (by omega) (by omega) ?_)))
    rw [Int.toNat_natCast,hget]
    obtain ⟨d1,d2,d3,d4,d5⟩:=hg.ed.ends es[i] (List.getElem_mem hil)
    rw [← getD_of (d:=(0,0)) hil] at d1 d2 d3 d4 d5
    obtain ⟨a,ha⟩:∃ a:Nat,(es.getD i (0,0)).1=a:=⟨(es.getD i (0,0)).1.toNat,by omega⟩
    obtain ⟨b,hb'⟩:∃ b:Nat,(es.getD i (0,0)).2=b:=⟨(es.getD i (0,0)).2.toNat,by omega⟩
    have hab:es.getD i (0,0)=((a:Int),(b:Int)):=by rw [← ha,← hb']
    rw [hdrop,ptL_cons hci] at hN kk
    unfold F179.B13
    obtain ⟨bb,oo,hk',c1,c2⟩:=(he.le h0).idx (show (0:Int)≤i by omega) (by omega)
    simp only [Int.toNat_natCast] at c1 c2
    refine nilK_mk (asP_mk (ld1_own oP rfl (hk' _ (ldI_mk c1 (ldI_mk c2 (newK_f rfl fun G1 l1 n1' o1=>stK_f o1 (by simp) (by simp [Value.oneCell']) rfl fun G2 b2 o2=>?_))))))
    have l2:G.le G2:=b2.le l1 (Nat.le_refl _)
    have o2:Own G2 G.length 28 [.int .i64 (a:Nat),.int .i64 (b:Nat)]:=by rw [ha,hb'] at o2;simpa using o2
    have hul:=hU.1
    have hcl0:=oc.lt
    have hul0:=ou.lt
    have xG:¬ X G.length:=fun h=>by have:=hC.xb _ h;omega
    unfold F179.B12 F179.L2
    refine ⟨fun x0 x1 x5 x6 x65 G'=>.pointer (some ⟨pb,0,none⟩)=x0∧((k:Nat):Int)=x1∧((i:Nat):Int)=x5∧G.length=x6∧Fnd X G2 G'∧∃ t:Nat,x65=t∧t≤3∧J (done++ptTo es (E.drop (k+1)) i c t) G'∧(ptTo es (E.drop (k+1)) i c t).any q=false,fun _ _ _ _ x65 _=>3-x65.toNat,
      ⟨rfl,rfl,rfl,rfl,.refl,0,rfl,by omega,by rw [show ptTo es (E.drop (k+1)) i c 0=[] from rfl,List.append_nil];exact hC.st _ _ _ hJ (.le l2),rfl⟩,?_⟩
    rintro x0 x1 x5 x6 x65 G3 ⟨rfl,rfl,rfl,rfl,hG3,t,rfl,ht,hJ3,hno⟩
    have fG3:=(Fnd.le (X:=X) l2).trans hG3
    have h03:=fG3.base h0 hC.x0
    have oP3:=fG3.own oP hC.xp
    have oc3:=fG3.own oc hC.xc
    have ou3:=fG3.own ou hC.xu
    have o23:=hG3.own o2 xG
    have hG3l:=fG3.len
    unfold F179.B11
    refine pif_cases (fun hb=>?_) fun hb=>?_
    · have ht3:t<3:=by have:=of_decide_eq_true hb;omega
      have hua:=(hU.2 a (by omega)).1
      have hub':=(hU.2 b (by omega)).1
      have hsucc:=ptTo_succ (es:=es) (E:=E.drop (k+1)) (i:=i) (c:=c) t
      have hle3:=ptTo_le (es:=es) (E:=E.drop (k+1)) (i:=i) (c:=c) (t:=t+1) (s:=3) (by omega)
      unfold F179.B10 F179.B9
      refine nilK_mk (asP_mk (ld1_own oP3 rfl (ldI_own o23 rfl (own_idx (by omega) (by omega) (ldI_own ou3 (by rw [Int.toNat_natCast];exact LUget2 (by omega)) (nilK_mk (asP_mk (ld1_own oP3 rfl (ldI_own o23 rfl (own_idx (by omega) (by omega) (ldI_own ou3 (by rw [Int.toNat_natCast];exact LUget2 (by omega)) ?_)))))))))))
      rw [bits_or hua hub']
      refine has_ok (or_lt hua hub') (by omega) (asB_mk ?_)
      rw [Int.toNat_natCast,used_clash hU hab (by omega) (by omega)]
      refine pif_cases (fun hb=>?_) fun hb=>?_
      · unfold F179.B3
        rw [wrap_id (by omega) (by omega)]
        rw [hb,if_pos rfl,List.append_nil] at hsucc
        exact ⟨⟨rfl,rfl,rfl,rfl,hG3,t+1,by omega,by omega,by rw [hsucc];exact hJ3,by rw [hsucc];exact hno⟩,by simp;omega⟩
      · have hcl2:=hb
        rw [hb] at hsucc
        simp only [Bool.false_eq_true,if_false] at hsucc
        unfold F179.B8
        refine give_ok (x:=t) hg he h03 hcb hub hne hp1 hp2 oP3 oc3 ou3 hcl hul (fun w hw=>(hU.2 w hw).1) hil (by omega) fun G4 t4 oc4 ou4=>asTup_mk ?_
        rw [ha,hb',Int.toNat_natCast,Int.toNat_natCast] at ou4
        have hU4:=hU.give (x:=t) (by omega) hci hab (by omega) (by omega) (by omega) (by omega)
        have h04:=t4.base h03 hcb hub
        have oP4:Own G4 pb tP _:=t4.old pb _ hp1 hp2 oP3
        have hJ4:=hC.st _ _ _ hJ3 t4
        have hl4:=t4.len
        unfold F179.B7
        rw [wrap_id (by omega) (by omega),show ((k:Nat):Int)+1=((k+1:Nat):Int) by omega]
        first
        | (exfalso;omega)
        | (refine ih (k + 1) (c.set i (t : Int)) _ _ G4 _ (by omega) (by omega) h04 (by omega) oP4 oc4 ou4 (by simpa using hcl) hU4 hJ4 (by
             rw [hsucc,List.length_append] at hle3
             rw [List.length_append];omega) fun G5 f5 hJ5=>asB_mk ?_
           have oP5:=f5.own oP4 hC.xp
           have oc5:=f5.own oc4 hC.xc
           have ou5:=f5.own ou4 hC.xu
           have h05:=f5.base h04 hC.x0
           unfold F179.B6
           refine take_ok (x:=t) hg he h05 hcb hub hne hp1 hp2 oP5 oc5 ou5 (by simpa using hcl) hU4.1 (fun w hw=>(hU4.2 w hw).1) hil (by omega) (getD_set_self (by omega)) fun G6 t6 oc6 ou6=>asTup_mk ?_
           have hback:(c.set i (t:Int)).set i (-1)=c:=by
             rw [List.set_set,← hci,getD_of (by omega:i<c.length)];exact List.set_getElem_self _
           rw [hback] at oc6
           have hbit:=used_clash (x:=t) hU hab (by omega) (by omega)
           rw [hcl2,Nat.testBit_or,Bool.or_eq_false_iff] at hbit
           rw [ha,hb',Int.toNat_natCast,Int.toNat_natCast,give_take (by omega) (by omega) (by omega) (by omega) hua hub' hbit.1 hbit.2] at ou6
           have f36:Fnd X G3 G6:=Two.fnd t4 f5 t6 oc3 oc6 ou3 ou6
           have hJ6:=hC.st _ _ _ hJ5 t6
           rw [List.append_assoc] at hJ6
           unfold F179.B5
           refine pif_cases (fun hb=>?_) fun hb=>?_
           · unfold F179.B4
             have kk:=kk G6 (fG3.trans f36)
             have e3:ptTo es (E.drop (k+1)) i c 3=ptTo es (E.drop (k+1)) i c t++(ptL es (E.drop (k+1)) (c.set i (t:Int))++(ptTo es (E.drop (k+1)) i c 3).drop (ptTo es (E.drop (k+1)) i c (t+1)).length):=by
               rw [← List.append_assoc,← hsucc]
               have pre:∀ s,t+1≤s→∃ R,ptTo es (E.drop (k+1)) i c s=ptTo es (E.drop (k+1)) i c (t+1)++R:=by
                 intro s hs
                 induction s with
                 | zero=>omega
                 | succ s ihs=>
                   by_cases es':s=t
                   · subst es';exact ⟨[],by simp⟩
                   · obtain ⟨R,hR⟩:=ihs (by omega)
                     exact ⟨_,by rw [ptTo_succ,hR,List.append_assoc]⟩
               obtain ⟨R,hR⟩:=pre 3 (by omega)
               rw [hR,List.drop_left]
             have hany:(ptTo es (E.drop (k+1)) i c 3).any q=true:=by
               rw [e3,List.any_append,List.any_append,hb];simp
             have hup:upTo q (ptTo es (E.drop (k+1)) i c 3)=ptTo es (E.drop (k+1)) i c t++upTo q (ptL es (E.drop (k+1)) (c.set i (t:Int))):=by
               rw [e3,upTo_app hno,upTo_stop hb]
             rw [hany,hup] at kk
             exact kk hJ6
           · rw [upTo_all hb] at hJ6
             unfold F179.B3
             rw [wrap_id (by omega) (by omega)]
             exact ⟨⟨rfl,rfl,rfl,rfl,hG3.trans f36,t+1,by omega,by omega,by rw [hsucc];exact hJ6,by rw [hsucc,List.any_append,hno,hb];rfl⟩,by simp;omega⟩)
    · have ht3:t=3:=by have:=of_decide_eq_false hb;omega
      subst ht3
      unfold F179.B1
      have kk:=kk G3 fG3
      rw [hno,upTo_all hno] at kk
      exact kk hJ3
end
end Go.Proofs
namespace Go.Proofs
open Go.Abs

section
variable {es:List (Int × Int)} {p:Nat→Bool} {n:Int} {l:List Int}
end
theorem IsS.short2 {l:List Int} {n:Nat} (h:IsS l n):l.length≤n:=by rw [h.filt];exact filtB_length _ _
end Go.Proofs
namespace Go.Proofs
open Go.Abs

variable {l m c:List Int} {es fs:List (Int × Int)} {ls L:List (List Int)} {n:Int}

end Go.Proofs
namespace Go.Proofs
open Go.Abs

variable {l m c:List Int} {es fs:List (Int × Int)} {ls L:List (List Int)} {n:Int}

theorem mem_ptL {c:List Int} (hcl:c.length=es.length):∀ (E d:List Int),d.length=es.length→E.Nodup→(∀ i∈E,0≤i∧i<es.length∧d.getD i.toNat 0=-1∧0≤c.getD i.toNat 0∧c.getD i.toNat 0≤2)→(∀ j:Nat,j<es.length→(j:Int)∉E→d.getD j 0=c.getD j 0)→
 (∀ i j:Nat,i<es.length→j<es.length→i≠j→share (es.getD i (0,0)) (es.getD j (0,0))→0≤c.getD i 0→c.getD i 0≠c.getD j 0)→c∈ptL es E d
 | [],d,hd,_,_,ho,_=>by
  rw [ptL,List.mem_singleton]
  exact List.ext_getElem (by omega) fun i h1 h2=>by
   have:=ho i (by omega) (by simp)
   rw [getD_of h2,getD_of h1] at this
   exact this.symm
 | i::E,d,hd,hn,hE,ho,hs=>by
  obtain ⟨h1,h2,h3,h4,h5⟩:=hE i (by simp)
  obtain ⟨j,rfl⟩:∃ j:Nat,i=j:=⟨i.toNat,by omega⟩
  rw [Int.toNat_natCast] at h3 h4 h5
  rw [List.nodup_cons] at hn
  rw [ptL_cons h3]
  obtain ⟨x,hx⟩:∃ x:Nat,c.getD j 0=x:=⟨(c.getD j 0).toNat,by omega⟩
  unfold ptTo
  rw [List.mem_flatMap]
  refine ⟨x,List.mem_range.2 (by omega),?_⟩
  have hcl':clashB es d j (x:Int)=false:=by
   cases hb:clashB es d j (x:Int) with
   | false=>rfl
   | true=>
    obtain ⟨q,q1,q2,q3⟩:=clashB_iff.1 hb
    have hqj:q≠j:=fun e=>by subst e;omega
    have hqE:(q:Int)∉((j:Int)::E):=fun hm=>by
     have:=(hE (q:Int) hm).2.2.1
     rw [Int.toNat_natCast] at this;omega
    have hqc:=ho q (by omega) hqE
    have:=hs j q (by omega) (by omega) (fun e=>hqj e.symm) (share_symm q3) h4
    omega
  rw [hcl']
  simp only [Bool.false_eq_true,if_false]
  refine mem_ptL hcl E (d.set j (x:Int)) (by simpa using hd) hn.2 (fun i hi=>?_) (fun q hq hqE=>?_) hs
  ·obtain ⟨g1,g2,g3,g4,g5⟩:=hE i (by simp [hi])
   refine ⟨g1,g2,?_,g4,g5⟩
   have:j≠i.toNat:=fun e=>by
    have:i=(j:Int):=by omega
    subst this;exact hn.1 hi
   rw [getD_set_ne this];exact g3
  ·by_cases e:j=q
   ·subst e;rw [getD_set_self (by omega)];exact hx.symm
   ·rw [getD_set_ne e]
    refine ho q hq fun hm=>?_
    rcases List.mem_cons.1 hm with h|h
    ·omega
    ·exact hqE h
noncomputable def partB (es:List (Int × Int)) (v i:Nat):Bool:=rchB (vAdj es) v (es.getD i (0,0)).1.toNat
noncomputable def partE (es:List (Int × Int)) (v:Nat):List Int:=filtB (partB es v) es.length
noncomputable def partL (es:List (Int × Int)) (n:Nat):List (List Int):=(leadL es n).map (partE es)
noncomputable def blank (es:List (Int × Int)):List Int:=List.replicate es.length (-1)
theorem partL_length (n:Nat):(partL es n).length=(sidesL es n).length:=by
 unfold partL;rw [List.length_map,leadL_length]
theorem partL_get {n k:Nat} (h:k<(leadL es n).length):(partL es n).getD k []=partE es (leadL es n)[k]:=by
 unfold partL
 rw [getD_of (by rw [List.length_map];exact h),List.getElem_map]
theorem partE_nodup (v:Nat):(partE es v).Nodup:=filtB_nodup _ _
theorem partE_rng {v:Nat} {x:Int} (h:x∈partE es v):0≤x∧x<es.length:=by
 obtain ⟨j,rfl,hj,_⟩:=mem_filtB.1 h;omega
def restr (E c:List Int):List Int:=(List.range c.length).map fun j:Nat=>if (j:Int)∈E then c.getD j 0 else -1
theorem restr_get (E c:List Int) {j:Nat} (h:j<c.length):(restr E c).getD j 0=if (j:Int)∈E then c.getD j 0 else -1:=by
 unfold restr;rw [getD_of (by simpa using h)];simp
theorem restr_mem (hc:IsC es c) {v:Nat}:restr (partE es v) c∈ptL es (partE es v) (blank es):=by
 have hl:(restr (partE es v) c).length=es.length:=by unfold restr;rw [List.length_map,List.length_range,hc.len]
 have hcl:=hc.len
 refine mem_ptL hl _ _ (by unfold blank;simp) (partE_nodup v) (fun i hi=>?_) (fun j hj hn=>?_) (fun i j hi hj hij hs h0=>?_)
 ·obtain ⟨r1,r2⟩:=partE_rng hi
  obtain ⟨q,rfl⟩:∃ q:Nat,i=q:=⟨i.toNat,by omega⟩
  rw [Int.toNat_natCast,restr_get _ _ (by omega),if_pos hi]
  have:=hc.get q
  refine ⟨r1,r2,?_,this.1,this.2⟩
  unfold blank
  simp [List.getD,show q<es.length by omega]
 ·rw [restr_get _ _ (by omega),if_neg hn]
  unfold blank
  simp [List.getD,hj]
 ·rw [restr_get _ _ (by omega)] at h0 ⊢
  rw [restr_get _ _ (by omega)]
  have hr:=hc.get j
  have hi':=hc.get i
  have hne:c.getD i 0≠c.getD j 0:=by
   rcases Nat.lt_or_gt_of_ne hij with h|h
   ·exact hc.col j hj i h hs
   ·exact fun e=>hc.col i hi j h (share_symm hs) e.symm
  split at h0
  ·rw [if_pos (by assumption)]
   split
   ·exact hne
   ·omega
  ·omega
end Go.Proofs
namespace Go.Proofs
open Go.Abs

variable {l m c d:List Int} {es fs:List (Int × Int)} {ls L:List (List Int)} {n:Int}

structure PrpC (es:List (Int × Int)) (d:List Int):Prop where
 len:d.length=es.length
 rng:∀ j:Nat,-1≤d.getD j 0∧d.getD j 0≤2
 col:∀ i j:Nat,i<es.length→j<es.length→i≠j→share (es.getD i (0,0)) (es.getD j (0,0))→0≤d.getD i 0→d.getD i 0≠d.getD j 0
theorem blank_get {j:Nat} (h:j<es.length):(blank es).getD j 0=-1:=by unfold blank;simp [List.getD,h]
theorem blank_prp:PrpC es (blank es):=by
 refine ⟨by unfold blank;simp,fun j=>?_,fun i j hi hj _ _ h0=>?_⟩
 ·by_cases h:j<es.length
  ·rw [blank_get h];omega
  ·unfold blank;simp [List.getD,h]
 ·rw [blank_get hi] at h0;omega
theorem PrpC.put {i x:Nat} (h:PrpC es d) (hi:i<es.length) (hx:x<3) (hc:clashB es d i (x:Int)=false):PrpC es (d.set i (x:Int)):=by
 have hl:=h.len
 have key:∀ j:Nat,j<es.length→share (es.getD i (0,0)) (es.getD j (0,0))→d.getD j 0≠(x:Int):=fun j hj hs e=>by
  have:clashB es d i (x:Int)=true:=clashB_iff.2 ⟨j,by omega,e,share_symm hs⟩
  rw [hc] at this;cases this
 refine ⟨by simpa using hl,fun j=>?_,fun a b ha hb hab hs h0=>?_⟩
 ·by_cases e:i=j
  ·subst e;rw [getD_set_self (by omega)];omega
  ·rw [getD_set_ne e];exact h.rng j
 ·by_cases e:i=a
  ·subst e
   rw [getD_set_self (by omega),getD_set_ne hab]
   exact fun h=>key b hb hs h.symm
  ·rw [getD_set_ne e] at h0 ⊢
   by_cases e2:i=b
   ·subst e2
    rw [getD_set_self (by omega)]
    exact key a ha (share_symm hs)
   ·rw [getD_set_ne e2]
    exact h.col a b ha hb hab hs h0
theorem ptL_sound:∀ (E c:List Int),PrpC es c→(∀ x∈E,0≤x∧x<es.length)→∀ d∈ptL es E c,PrpC es d∧(∀ j:Nat,0≤c.getD j 0→d.getD j 0=c.getD j 0)∧∀ x∈E,0≤d.getD x.toNat 0
 | [],c,hc,_,d,hd=>by
  rw [ptL,List.mem_singleton] at hd
  subst hd
  exact ⟨hc,fun _ _=>rfl,fun x hx=>by cases hx⟩
 | i::E,c,hc,hE,d,hd=>by
  have hi:=hE i (by simp)
  obtain ⟨q,rfl⟩:∃ q:Nat,i=q:=⟨i.toNat,by omega⟩
  by_cases h1:c.getD q 0=-1
  ·rw [ptL_cons h1] at hd
   unfold ptTo at hd
   rw [List.mem_flatMap] at hd
   obtain ⟨x,hx,hd⟩:=hd
   rw [List.mem_range] at hx
   cases hb:clashB es c q (x:Int) with
   | true=>rw [hb] at hd;simp at hd
   | false=>
    rw [hb] at hd
    simp only [Bool.false_eq_true,if_false] at hd
    have hl:=hc.len
    obtain ⟨g1,g2,g3⟩:=ptL_sound E _ (hc.put (by omega) hx hb) (fun y hy=>hE y (by simp [hy])) d hd
    have hq:d.getD q 0=(x:Int):=by
     have:=g2 q (by rw [getD_set_self (by omega)];omega)
     rwa [getD_set_self (by omega)] at this
    refine ⟨g1,fun j hj=>?_,fun y hy=>?_⟩
    ·have hne:q≠j:=fun e=>by subst e;omega
     have:=g2 j (by rw [getD_set_ne hne];exact hj)
     rwa [getD_set_ne hne] at this
    ·rcases List.mem_cons.1 hy with rfl|hy
     ·rw [Int.toNat_natCast,hq];omega
     ·exact g3 y hy
  ·rw [ptL_skip h1] at hd
   obtain ⟨g1,g2,g3⟩:=ptL_sound E c hc (fun y hy=>hE y (by simp [hy])) d hd
   have hr:=hc.rng q
   refine ⟨g1,g2,fun y hy=>?_⟩
   rcases List.mem_cons.1 hy with rfl|hy
   ·rw [Int.toNat_natCast,g2 q (by omega)];omega
   ·exact g3 y hy
theorem mem_ptL2 (hcl:c.length=es.length):∀ (E d:List Int),d.length=es.length→E.Nodup→(∀ i∈E,0≤i∧i<es.length∧(d.getD i.toNat 0=-1∨d.getD i.toNat 0=c.getD i.toNat 0)∧0≤c.getD i.toNat 0∧c.getD i.toNat 0≤2)→(∀ j:Nat,j<es.length→(j:Int)∉E→d.getD j 0=c.getD j 0)→
 (∀ i j:Nat,i<es.length→j<es.length→i≠j→share (es.getD i (0,0)) (es.getD j (0,0))→0≤c.getD i 0→c.getD i 0≠c.getD j 0)→c∈ptL es E d
 | [],d,hd,_,_,ho,_=>by
  rw [ptL,List.mem_singleton]
  exact List.ext_getElem (by omega) fun i h1 h2=>by
   have:=ho i (by omega) (by simp)
   rw [getD_of h2,getD_of h1] at this
   exact this.symm
 | i::E,d,hd,hn,hE,ho,hs=>by
  obtain ⟨h1,h2,h3,h4,h5⟩:=hE i (by simp)
  obtain ⟨j,rfl⟩:∃ j:Nat,i=j:=⟨i.toNat,by omega⟩
  rw [Int.toNat_natCast] at h3 h4 h5
  rw [List.nodup_cons] at hn
  by_cases hd1:d.getD j 0=-1
  ·rw [ptL_cons hd1]
   obtain ⟨x,hx⟩:∃ x:Nat,c.getD j 0=x:=⟨(c.getD j 0).toNat,by omega⟩
   unfold ptTo
   rw [List.mem_flatMap]
   refine ⟨x,List.mem_range.2 (by omega),?_⟩
   have hcl':clashB es d j (x:Int)=false:=by
    cases hb:clashB es d j (x:Int) with
    | false=>rfl
    | true=>
     obtain ⟨q,q1,q2,q3⟩:=clashB_iff.1 hb
     have hqj:q≠j:=fun e=>by subst e;omega
     have hqc:d.getD q 0=c.getD q 0:=by
      by_cases hqE:(q:Int)∈((j:Int)::E)
      ·have:=(hE (q:Int) hqE).2.2.1
       rw [Int.toNat_natCast] at this;omega
      ·exact ho q (by omega) hqE
     have:=hs j q (by omega) (by omega) (fun e=>hqj e.symm) (share_symm q3) h4
     omega
   rw [hcl']
   simp only [Bool.false_eq_true,if_false]
   refine mem_ptL2 hcl E (d.set j (x:Int)) (by simpa using hd) hn.2 (fun i hi=>?_) (fun q hq hqE=>?_) hs
   ·obtain ⟨g1,g2,g3,g4,g5⟩:=hE i (by simp [hi])
    refine ⟨g1,g2,?_,g4,g5⟩
    have:j≠i.toNat:=fun e=>by
     have:i=(j:Int):=by omega
     subst this;exact hn.1 hi
    rw [getD_set_ne this];exact g3
   ·by_cases e:j=q
    ·subst e;rw [getD_set_self (by omega)];exact hx.symm
    ·rw [getD_set_ne e]
     refine ho q hq fun hm=>?_
     rcases List.mem_cons.1 hm with h|h
     ·omega
     ·exact hqE h
  ·rw [ptL_skip hd1]
   refine mem_ptL2 hcl E d hd hn.2 (fun i hi=>hE i (by simp [hi])) (fun q hq hqE=>?_) hs
   by_cases e:j=q
   ·subst e;exact h3.resolve_left hd1
   ·refine ho q hq fun hm=>?_
    rcases List.mem_cons.1 hm with h|h
    ·omega
    ·exact hqE h
theorem edge_part {j:Nat} (hg:IsG n es) (hj:j<es.length):∃ v,v∈leadL es n.toNat∧(j:Int)∈partE es v:=by
 obtain ⟨a,b,e1,e2,e3⟩:=edge_ends hg hj
 obtain ⟨v,h1,h2,h3⟩:=lead_exists (fs:=es) a
 refine ⟨v,?_,?_⟩
 ·unfold leadL
  rw [List.mem_filter,List.mem_range]
  exact ⟨by omega,h2⟩
 ·unfold partE
  refine mem_filtB.2 ⟨j,rfl,hj,?_⟩
  unfold partB
  rw [e1,rchB_iff]
  exact h3
theorem part_share {i j v:Nat} (hg:IsG n es) (hi:i<es.length) (hj:j<es.length) (hs:share (es.getD i (0,0)) (es.getD j (0,0))) (hv:(i:Int)∈partE es v):(j:Int)∈partE es v:=by
 obtain ⟨q,h1,h2,h3⟩:=mem_filtB.1 hv
 obtain rfl:i=q:=by omega
 unfold partB at h3
 rw [rchB_iff] at h3
 obtain ⟨a,b,e1,e2,e3⟩:=edge_ends hg hi
 obtain ⟨a',b',e1',e2',e3'⟩:=edge_ends hg hj
 rw [e1] at h3
 have adj:∀ {k x y:Nat},k<es.length→es.getD k (0,0)=((x:Int),(y:Int))→vAdj es x y∧vAdj es y x:=fun {k x y} hk e=>by
  have hm:((x:Int),(y:Int))∈es:=by rw [← e,getD_of hk];exact List.getElem_mem hk
  exact ⟨.inl hm,.inr hm⟩
 obtain ⟨x,o1,o2⟩:=hs
 rw [e1] at o1
 rw [e1'] at o2
 unfold on at o1 o2
 simp only [Bool.or_eq_true,beq_iff_eq] at o1 o2
 refine mem_filtB.2 ⟨j,rfl,hj,?_⟩
 unfold partB
 rw [e1',rchB_iff]
 have h3:Rch (vAdj es) v a:=h3
 have hb:Rch (vAdj es) v b:=h3.step (adj hi e1).1
 show Rch (vAdj es) v a'
 have:a'=a∨a'=b∨b'=a∨b'=b:=by omega
 rcases this with h|h|h|h
 ·rw [h];exact h3
 ·rw [h];exact hb
 ·exact .step (by rw [h];exact h3) (adj hj e1').2
 ·exact .step (by rw [h];exact hb) (adj hj e1').2
theorem parts_isC (hg:IsG n es) (h:∀ v∈leadL es n.toNat,∃ d,PrpC es d∧∀ x∈partE es v,0≤d.getD x.toNat 0):∃ c,IsC es c:=by
 obtain ⟨pick,hp⟩:∃ pick:Nat→List Int,∀ v∈leadL es n.toNat,PrpC es (pick v)∧∀ x∈partE es v,0≤(pick v).getD x.toNat 0:=by
  refine ⟨fun v=>@dite (List Int) (v∈leadL es n.toNat) (Classical.propDecidable _) (fun hv=>Classical.choose (h v hv)) fun _=>[],fun v hv=>?_⟩
  simp only [dif_pos hv]
  exact Classical.choose_spec (h v hv)
 obtain ⟨ld,hl⟩:∃ ld:Nat→Nat,∀ j,j<es.length→ld j∈leadL es n.toNat∧(j:Int)∈partE es (ld j):=by
  refine ⟨fun j=>@dite Nat (j<es.length) (Classical.propDecidable _) (fun hj=>Classical.choose (edge_part hg hj)) fun _=>0,fun j hj=>?_⟩
  simp only [dif_pos hj]
  exact Classical.choose_spec (edge_part hg hj)
 have get:∀ q,q<es.length→((List.range es.length).map fun j:Nat=>(pick (ld j)).getD j 0).getD q 0=(pick (ld q)).getD q 0:=fun q hq=>by
  rw [getD_of (by simpa using hq),List.getElem_map,List.getElem_range]
 have pos:∀ q,q<es.length→0≤(pick (ld q)).getD q 0:=fun q hq=>by
  have:=(hp _ (hl q hq).1).2 _ (hl q hq).2
  rwa [Int.toNat_natCast] at this
 refine ⟨(List.range es.length).map fun j:Nat=>(pick (ld j)).getD j 0,by simp,fun x hx=>?_,fun j hj i hij hs=>?_⟩
 ·obtain ⟨j,hj,rfl⟩:=List.mem_map.1 hx
  rw [List.mem_range] at hj
  exact ⟨pos j hj,((hp _ (hl j hj).1).1.rng j).2⟩
 ·have hi:i<es.length:=by omega
  rw [get i hi,get j hj]
  have same:ld j=ld i:=by
   have h1:=part_share hg hi hj hs (hl i hi).2
   have h2:=(hl j hj).2
   obtain ⟨q,a1,a2,a3⟩:=mem_filtB.1 h1
   obtain ⟨q',b1,b2,b3⟩:=mem_filtB.1 h2
   obtain rfl:j=q:=by omega
   obtain rfl:j=q':=by omega
   unfold partB at a3 b3
   rw [rchB_iff] at a3 b3
   have l1:=(hl i hi).1
   have l2:=(hl j hj).1
   unfold leadL at l1 l2
   rw [List.mem_filter] at l1 l2
   exact lead_eq l2.2 l1.2 (b3.trans (a3.symm vAdj_symm))
  rw [same]
  exact (hp _ (hl i hi).1).1.col i j hi hj (by omega) hs (pos i hi)
-- a start with the colours of the first vertex's edges
noncomputable def nstTo (es:List (Int × Int)):Nat→List Int
 | 0=>blank es
 | t+1=>(nstTo es t).set ((atL es 0).getD t 0).toNat (t:Int)
theorem nstTo_len:∀ t,(nstTo es t).length=es.length
 | 0=>by unfold nstTo blank;simp
 | t+1=>by rw [nstTo,List.length_set,nstTo_len t]
theorem at0_get (hg:IsG n es) {t:Nat} (ht:t<3):∃ j:Nat,(atL es 0).getD t 0=j∧j<es.length∧on (es.getD j (0,0)) 0=true:=by
 have n0:=hg.ed.lo
 have h3:=hg.three (v:=0) (by omega) (by omega)
 have:=List.getElem_mem (show t<(atL es 0).length by omega)
 rw [← getD_of (d:=0) (by omega)] at this
 exact mem_atL.1 this
theorem at0_inj (hg:IsG n es) {s t:Nat} (hs:s<3) (ht:t<3) (h:(atL es 0).getD s 0=(atL es 0).getD t 0):s=t:=by
 have n0:=hg.ed.lo
 have h3:=hg.three (v:=0) (by omega) (by omega)
 have ha:(atL es 0).Nodup:=filtB_nodup _ _
 rw [getD_of (by omega),getD_of (by omega)] at h
 exact (List.getElem_inj ha).1 h
theorem nstTo_in (hg:IsG n es) {s:Nat}:∀ {t},s<t→t≤3→(nstTo es t).getD ((atL es 0).getD s 0).toNat 0=(s:Int)
 | 0,h,_=>absurd h (by omega)
 | t+1,h,ht=>by
  rw [nstTo]
  obtain ⟨j,e1,e2,_⟩:=at0_get hg (t:=t) (by omega)
  obtain ⟨i,e3,e4,_⟩:=at0_get hg (t:=s) (by omega)
  rw [e1,e3,Int.toNat_natCast,Int.toNat_natCast]
  by_cases e:s=t
  ·subst e
   have:i=j:=by omega
   subst this
   rw [getD_set_self (by rw [nstTo_len];exact e2)]
  ·rw [getD_set_ne (fun hji=>e (at0_inj hg (by omega) (by omega) (by rw [e1,e3,hji])))]
   have:=nstTo_in hg (s:=s) (t:=t) (by omega) (by omega)
   rwa [e3,Int.toNat_natCast] at this
theorem nstTo_out (hg:IsG n es) {j:Nat} (hj:j<es.length):∀ {t},t≤3→(∀ s,s<t→(atL es 0).getD s 0≠(j:Int))→(nstTo es t).getD j 0=-1
 | 0,_,_=>blank_get hj
 | t+1,ht,h=>by
  rw [nstTo]
  obtain ⟨i,e1,e2,_⟩:=at0_get hg (t:=t) (by omega)
  rw [getD_set_ne (fun e=>h t (by omega) (by omega))]
  exact nstTo_out hg hj (by omega) fun s hs=>h s (by omega)
theorem nstTo_val (hg:IsG n es) {j t:Nat} (hj:j<es.length) (ht:t≤3):(∃ s,s<t∧(atL es 0).getD s 0=(j:Int)∧(nstTo es t).getD j 0=(s:Int))∨(nstTo es t).getD j 0=-1:=by
 by_cases h:∃ s,s<t∧(atL es 0).getD s 0=(j:Int)
 ·obtain ⟨s,h1,h2⟩:=h
  have:=nstTo_in hg h1 ht
  rw [h2,Int.toNat_natCast] at this
  exact .inl ⟨s,h1,h2,this⟩
 ·exact .inr (nstTo_out hg hj ht fun s h1 h2=>h ⟨s,h1,h2⟩)
theorem nst_prp (hg:IsG n es) {t:Nat} (ht:t≤3):PrpC es (nstTo es t):=by
 refine ⟨nstTo_len t,fun j=>?_,fun i j hi hj hij hs h0=>?_⟩
 ·by_cases h:j<es.length
  ·rcases nstTo_val hg h ht with ⟨s,h1,h2,h3⟩|h3 <;> omega
  ·have:=nstTo_len (es:=es) t
   simp [List.getD,List.getElem?_eq_none (show (nstTo es t).length≤j by omega)]
 ·rcases nstTo_val hg hi ht with ⟨s,h1,h2,h3⟩|h3
  ·rcases nstTo_val hg hj ht with ⟨s',g1,g2,g3⟩|g3
   ·have:s≠s':=fun e=>by subst e;omega
    omega
   ·omega
  ·omega
theorem renamed (hg:IsG n es) (hc:IsC es c):∃ c',IsC es c'∧∀ s,s<3→c'.getD ((atL es 0).getD s 0).toNat 0=(s:Int):=by
 obtain ⟨i0,a0,b0,d0⟩:=at0_get hg (t:=0) (by omega)
 obtain ⟨i1,a1,b1,d1⟩:=at0_get hg (t:=1) (by omega)
 obtain ⟨i2,a2,b2,d2⟩:=at0_get hg (t:=2) (by omega)
 have ne:∀ i j:Nat,i<es.length→j<es.length→i≠j→on (es.getD i (0,0)) 0=true→on (es.getD j (0,0)) 0=true→c.getD i 0≠c.getD j 0:=fun i j hi hj hij o1 o2=>by
  rcases Nat.lt_or_gt_of_ne hij with h|h
  ·exact hc.col j hj i h ⟨0,o1,o2⟩
  ·exact fun e=>hc.col i hi j h ⟨0,o2,o1⟩ e.symm
 have n01:=ne i0 i1 b0 b1 (fun e=>by have:=at0_inj hg (s:=0) (t:=1) (by omega) (by omega) (by rw [a0,a1,e]);omega) d0 d1
 have n02:=ne i0 i2 b0 b2 (fun e=>by have:=at0_inj hg (s:=0) (t:=2) (by omega) (by omega) (by rw [a0,a2,e]);omega) d0 d2
 have n12:=ne i1 i2 b1 b2 (fun e=>by have:=at0_inj hg (s:=1) (t:=2) (by omega) (by omega) (by rw [a1,a2,e]);omega) d1 d2
 have r0:=hc.get i0;have r1:=hc.get i1;have r2:=hc.get i2
 obtain ⟨g,hgd⟩:∃ g:Int→Int,∀ x,g x=if x=c.getD i0 0 then 0 else if x=c.getD i1 0 then 1 else 2:=⟨fun x=>if x=c.getD i0 0 then 0 else if x=c.getD i1 0 then 1 else 2,fun _=>rfl⟩
 have gv:∀ x,0≤x∧x≤2→(x=c.getD i0 0∧g x=0)∨(x=c.getD i1 0∧g x=1)∨(x=c.getD i2 0∧g x=2):=fun x hx=>by
  rw [hgd]
  by_cases h0:x=c.getD i0 0
  ·rw [if_pos h0];exact .inl ⟨h0,rfl⟩
  ·rw [if_neg h0]
   by_cases h1:x=c.getD i1 0
   ·rw [if_pos h1];exact .inr (.inl ⟨h1,rfl⟩)
   ·rw [if_neg h1];exact .inr (.inr ⟨by omega,rfl⟩)
 have get:∀ q,q<es.length→((List.range es.length).map fun j:Nat=>g (c.getD j 0)).getD q 0=g (c.getD q 0):=fun q hq=>by
  rw [getD_of (by simpa using hq),List.getElem_map,List.getElem_range]
 refine ⟨(List.range es.length).map fun j:Nat=>g (c.getD j 0),⟨by simp,fun x hx=>?_,fun j hj i hij hs=>?_⟩,fun s hs=>?_⟩
 ·obtain ⟨j,_,rfl⟩:=List.mem_map.1 hx
  rcases gv _ (hc.get j) with ⟨_,h⟩|⟨_,h⟩|⟨_,h⟩ <;> rw [h] <;> omega
 ·rw [get i (by omega),get j hj]
  have h:=hc.col j hj i hij hs
  have g1:=gv _ (hc.get i)
  have g2:=gv _ (hc.get j)
  intro e
  omega
 ·have:s=0∨s=1∨s=2:=by omega
  rcases this with rfl|rfl|rfl
  ·rw [a0,Int.toNat_natCast,get i0 b0,hgd,if_pos rfl];rfl
  ·rw [a1,Int.toNat_natCast,get i1 b1,hgd,if_neg (fun e=>n01 e.symm),if_pos rfl];rfl
  ·rw [a2,Int.toNat_natCast,get i2 b2,hgd,if_neg (fun e=>n02 e.symm),if_neg (fun e=>n12 e.symm)];rfl
theorem nst_mem (hg:IsG n es) (hc:IsC es c):∃ d,d∈ptL es (partE es 0) (nstTo es 3):=by
 have n0:=hg.ed.lo
 obtain ⟨c',hc',hv⟩:=renamed hg hc
 have hcl:=hc'.len
 have hin:∀ s,s<3→(atL es 0).getD s 0∈partE es 0:=fun s hs=>by
  obtain ⟨j,e1,e2,e3⟩:=at0_get hg hs
  rw [e1]
  refine mem_filtB.2 ⟨j,rfl,e2,?_⟩
  unfold partB
  rw [rchB_iff]
  obtain ⟨a,b,f1,f2,f3⟩:=edge_ends hg e2
  rw [f1] at e3 ⊢
  have:a=0:=by
   unfold on at e3
   simp only [Bool.or_eq_true,beq_iff_eq] at e3
   omega
  subst this
  exact .refl
 refine ⟨restr (partE es 0) c',mem_ptL2 (by unfold restr;rw [List.length_map,List.length_range,hcl]) _ _ (nstTo_len 3) (partE_nodup 0) (fun i hi=>?_) (fun j hj hn=>?_) (fun i j hi hj hij hs h0=>?_)⟩
 ·obtain ⟨r1,r2⟩:=partE_rng hi
  obtain ⟨q,rfl⟩:∃ q:Nat,i=q:=⟨i.toNat,by omega⟩
  rw [Int.toNat_natCast,restr_get _ _ (by omega),if_pos hi]
  have hr:=hc'.get q
  refine ⟨r1,r2,?_,hr.1,hr.2⟩
  rcases nstTo_val hg (j:=q) (t:=3) (by omega) (by omega) with ⟨s,h1,h2,h3⟩|h3
  ·right
   have:=hv s h1
   rw [h2,Int.toNat_natCast] at this
   rw [h3,this]
  ·exact .inl h3
 ·rw [restr_get _ _ (by omega),if_neg hn]
  exact nstTo_out hg hj (by omega) fun s hs e=>hn (by rw [← e];exact hin s hs)
 ·rw [restr_get _ _ (by omega)] at h0 ⊢
  rw [restr_get _ _ (by omega)]
  have hr:=hc'.get j
  have hne:c'.getD i 0≠c'.getD j 0:=by
   rcases Nat.lt_or_gt_of_ne hij with h|h
   ·exact hc'.col j hj i h hs
   ·exact fun e=>hc'.col i hi j h (share_symm hs) e.symm
  split at h0
  ·rw [if_pos (by assumption)]
   split
   ·exact hne
   ·have:=hc'.get i;omega
  ·omega
end Go.Proofs
namespace Go.Proofs
open Go.Abs

variable {H G:AHeap} {v u f:Value} {l m c D:List Int} {es fs:List (Int × Int)} {K:Value→AHeap→Prop}

theorem push_row {H0:AHeap} {b1:Nat} {x:Int} (hF:Fresh H0.length H v 2 1 (LI l)) (h0:H0.le H) (o:Own H b1 2 [.int .i64 x]) (hs:l.length<4294967296)
 (k:∀ v' G,H0.le G→Fresh H0.length G v' 2 1 (LI (l++[x]))→K v' G):apK T0 2 H v (Value.slice (some ⟨b1,0,none⟩) 1 (1+1)) K:=by
 obtain ⟨t1,t2,t3,t4⟩:=T0_int
 rw [← t2] at hF
 refine Fresh.push (n:=1) (ys:=[.int .i64 x]) t1 (by omega) (by omega) t4 hF h0 ?_ (by decide) (by simp;omega) ?_
 ·rw [t2];exact cellsAt_row o (by simp)
 ·intro v' G hG hf hk
  rw [t2] at hf
  exact k v' G hG (by simpa using hf)
theorem fits_clash {x:Int}:decide (Fits es (c++[x]) c.length x)=!clashB es c c.length x:=by
 rw [Bool.eq_iff_iff,decide_eq_true_iff,Bool.not_eq_true',← Bool.not_eq_true,clashB_iff]
 unfold Fits
 have hg:∀ j,j<c.length→(c++[x]).getD j 0=c.getD j 0:=fun j hj=>by simp [List.getD,List.getElem?_append,hj]
 constructor
 ·rintro h ⟨j,h1,h2,h3⟩
  exact h j h1 h3 (by rw [hg j h1];exact h2)
 ·intro h j h1 h3 h2
  rw [hg j h1] at h2
  exact h ⟨j,h1,h2,h3⟩
theorem spB_in {out:Nat→Bool} {r:Nat} (h:out c.length=false):spB es out (r+1) c=true↔∃ x:Nat,x<3∧clashB es c c.length (x:Int)=false∧spB es out r (c++[(x:Int)])=true:=by
 rw [spB,h]
 simp only [Bool.or_eq_true,Bool.and_eq_true,Bool.not_eq_true',Bool.false_eq_true,if_false]
 constructor
 ·rintro ((h|h)|h)
  ·exact ⟨0,by omega,h⟩
  ·exact ⟨1,by omega,h⟩
  ·exact ⟨2,by omega,h⟩
 ·rintro ⟨x,hx,h⟩
  rcases (by omega:x=0∨x=1∨x=2) with rfl|rfl|rfl
  ·exact .inl (.inl h)
  ·exact .inl (.inr h)
  ·exact .inr h
theorem l08Partial_ok {n:Int} {bo:Nat} {tb:TypeId} {S:List Bool} {H0:AHeap} (hg:IsG n es) (he:Edges H0 v es) (hS:S.length=es.length) (oB:Own H0 bo tb (LB S)) :
 ∀ (r:Nat) (c:List Int) (H:AHeap) (K:Value→AHeap→Prop) (u:Value),c.length+r=es.length→H0.le H→Ints H u c→(∀ G,H.le G→K (.bool (spB es (fun j=>S.getD j false) r c)) G)→
  AC Tryz.prog T0 186 [.agg ⟨[.int .i64 n,v]⟩,.slice (some ⟨bo,0,none⟩) es.length (es.length+1),u] H K:=by
 have n0:=hg.ed.lo;have n1:=hg.ed.hi
 have h30:es.length≤30:=by have:=hg.ed.len;omega
 intro r
 induction r with
 | zero=>
  intro c H K u hc h0 hu kk
  apply F186.ac
  unfold F186.B13
  refine newK_f (all_iv (edges_one' (he.le h0))) fun H1 l1 n1' o1=>?_
  unfold F186.B12
  refine (hu.le l1).len ?_
  unfold F186.B11
  refine (hu.le l1).len (ld1_own o1 rfl ((he.le (AHeap.le_trans h0 l1)).len (pif_t (by simp;omega) ?_)))
  unfold F186.B10
  exact kk H1 l1
 | succ r ih=>
  intro c H K u hc h0 hu kk
  apply F186.ac
  unfold F186.B13
  refine newK_f (all_iv (edges_one' (he.le h0))) fun H1 l1 n1' o1=>?_
  have h01:=AHeap.le_trans h0 l1
  unfold F186.B12
  refine (hu.le l1).len ?_
  unfold F186.B11
  refine (hu.le l1).len (ld1_own o1 rfl ((he.le h01).len (pif_f (by rw [beq_eq_false_iff_ne];omega) ?_)))
  unfold F186.B9
  refine own_idx (by omega) (by omega) (ld1_own (oB.le h01) (by rw [Int.toNat_natCast];exact LB_get (by omega)) (asB_mk ?_))
  refine pif_cases (fun hb=>?_) fun hb=>?_
  ·unfold F186.B8
   refine ldI_own o1 rfl (ld1_own o1 rfl ⟨?_,?_⟩)
   all_goals first
    | refine l01Own_ok (hu.le l1) (by omega) fun w G1 l2 f1=>⟨ldI_own (o1.le l2) rfl (ld1_own (o1.le l2) rfl ⟨rfl,rfl⟩),push_int (H0:=H1) f1 l2 (by omega) fun v' G2 l3 f2 _=>⟨ldI_own (o1.le l3) rfl (ld1_own (o1.le l3) rfl ⟨rfl,rfl⟩),?_⟩⟩
    | refine newK_f rfl fun G0 l0 n0' o0=>l01Own_ok (hu.le (AHeap.le_trans l1 l0)) (by omega) fun w G1 l2 f1=>⟨ldI_own (o1.le (AHeap.le_trans l0 l2)) rfl (ld1_own (o1.le (AHeap.le_trans l0 l2)) rfl ⟨rfl,rfl⟩),push_row (H0:=H1) (f1.less l0.1) (AHeap.le_trans l0 l2) (o0.le l2) (by omega) fun v' G2 l3 f2=>⟨ldI_own (o1.le l3) rfl (ld1_own (o1.le l3) rfl ⟨rfl,rfl⟩),?_⟩⟩
   all_goals
    refine ih (c++[-1]) G2 _ v' (by simp;omega) (AHeap.le_trans h01 l3) f2.ints fun G3 l4=>asB_mk ?_
    have kk:=kk G3 (AHeap.le_trans l1 (AHeap.le_trans l3 l4))
    rw [spB,if_pos hb] at kk
    exact kk
  ·unfold F186.B7 F186.L2
   refine ⟨fun x1 x2 x3 x7 x8 G=>.slice (some ⟨bo,0,none⟩) es.length (es.length+1)=x1∧u=x2∧H.length=x3∧((c.length:Nat):Int)=x7∧H1.le G∧∃ t:Nat,x8=t∧t≤3∧∀ x:Nat,x<t→¬ (clashB es c c.length (x:Int)=false∧spB es (fun j=>S.getD j false) r (c++[(x:Int)])=true),
    fun _ _ _ _ x8 _=>3-x8.toNat,⟨rfl,rfl,rfl,rfl,AHeap.le_refl _,0,rfl,by omega,fun x hx=>absurd hx (by omega)⟩,?_⟩
   rintro x1 x2 x3 x7 x8 G ⟨rfl,rfl,rfl,rfl,lG,t,rfl,ht,hno⟩
   have oG:=o1.le lG
   have h0G:=AHeap.le_trans h01 lG
   have huG:=hu.le (AHeap.le_trans l1 lG)
   unfold F186.B6
   refine pif_cases (fun hb3=>?_) fun hb3=>?_
   ·have ht3:t<3:=by have:=of_decide_eq_true hb3;omega
    unfold F186.B5
    refine ldI_own oG rfl (ld1_own oG rfl ⟨?_,?_⟩)
    all_goals first
     | refine l01Own_ok huG (by omega) fun w G1 l2 f1=>⟨ldI_own (oG.le l2) rfl (ld1_own (oG.le l2) rfl ⟨rfl,rfl⟩),push_int (H0:=G) f1 l2 (by omega) fun v' G2 l3 f2 _=>⟨ldI_own (oG.le l3) rfl (ld1_own (oG.le l3) rfl ⟨rfl,rfl⟩),?_⟩⟩
     | refine newK_f rfl fun G0 l0 n0' o0=>l01Own_ok (huG.le l0) (by omega) fun w G1 l2 f1=>⟨ldI_own (oG.le (AHeap.le_trans l0 l2)) rfl (ld1_own (oG.le (AHeap.le_trans l0 l2)) rfl ⟨rfl,rfl⟩),push_row (H0:=G) (f1.less l0.1) (AHeap.le_trans l0 l2) (o0.le l2) (by omega) fun v' G2 l3 f2=>⟨ldI_own (oG.le l3) rfl (ld1_own (oG.le l3) rfl ⟨rfl,rfl⟩),?_⟩⟩
    all_goals
     refine l02Fits2_ok (e:=c.length) (he.le (AHeap.le_trans h0G l3)) (by omega) hg f2.ints (by simp) (by omega) fun G3 l4=>asB_mk ?_
     rw [fits_clash]
     have l34:=AHeap.le_trans l3 l4
     have o3:=oG.le l34
     have hu3:=huG.le l34
     refine pif_cases (fun hf=>?_) fun hf=>?_
     ·rw [Bool.not_eq_true'] at hf
      refine ldI_own o3 rfl (ld1_own o3 rfl ⟨?_,?_⟩)
      all_goals first
       | refine l01Own_ok hu3 (by omega) fun w G4 l5 f4=>⟨ldI_own (o3.le l5) rfl (ld1_own (o3.le l5) rfl ⟨rfl,rfl⟩),push_int (H0:=G3) f4 l5 (by omega) fun v5 G5 l6 f5 _=>⟨ldI_own (o3.le l6) rfl (ld1_own (o3.le l6) rfl ⟨rfl,rfl⟩),?_⟩⟩
       | refine newK_f rfl fun G0 l0 n0' o0=>l01Own_ok (hu3.le l0) (by omega) fun w G4 l5 f4=>⟨ldI_own (o3.le (AHeap.le_trans l0 l5)) rfl (ld1_own (o3.le (AHeap.le_trans l0 l5)) rfl ⟨rfl,rfl⟩),push_row (H0:=G3) (f4.less l0.1) (AHeap.le_trans l0 l5) (o0.le l5) (by omega) fun v5 G5 l6 f5=>⟨ldI_own (o3.le l6) rfl (ld1_own (o3.le l6) rfl ⟨rfl,rfl⟩),?_⟩⟩
      all_goals
       refine ih (c++[(t:Int)]) G5 _ v5 (by simp;omega) (AHeap.le_trans h0G (AHeap.le_trans l34 l6)) f5.ints fun G6 l7=>asB_mk ?_
       have lG6:=AHeap.le_trans lG (AHeap.le_trans l34 (AHeap.le_trans l6 l7))
       refine pif_cases (fun hr=>?_) fun hr=>?_
       ·unfold F186.B4
        have kk:=kk G6 (AHeap.le_trans l1 lG6)
        rw [(spB_in (out:=fun j=>S.getD j false) hb).2 ⟨t,ht3,hf,hr⟩] at kk
        exact kk
       ·unfold F186.B3
        rw [wrap_id (by omega) (by omega)]
        refine ⟨⟨rfl,rfl,rfl,rfl,lG6,t+1,by omega,by omega,fun x hx=>?_⟩,by show 3-((t:Int)+1).toNat<3-(t:Int).toNat;omega⟩
        by_cases e:x=t
        ·subst e;rw [hr];simp
        ·exact hno x (by omega)
     ·rw [Bool.not_eq_false'] at hf
      first
       | refine ⟨?_,?_⟩
       | skip
      all_goals
       unfold F186.B3
       rw [wrap_id (by omega) (by omega)]
       refine ⟨⟨rfl,rfl,rfl,rfl,AHeap.le_trans lG l34,t+1,by omega,by omega,fun x hx=>?_⟩,by show 3-((t:Int)+1).toNat<3-(t:Int).toNat;omega⟩
       by_cases e:x=t
       ·subst e;rw [hf];simp
       ·exact hno x (by omega)
   ·have ht3:t=3:=by have:=of_decide_eq_false hb3;omega
    subst ht3
    unfold F186.B1
    have kk:=kk G (AHeap.le_trans l1 lG)
    have:spB es (fun j=>S.getD j false) (r+1) c=false:=by
     rw [← Bool.not_eq_true,spB_in (out:=fun j=>S.getD j false) hb]
     rintro ⟨x,h1,h2⟩
     exact hno x h1 h2
    rw [this] at kk;exact kk
end Go.Proofs
namespace Go.Proofs
open Go.Abs

variable {H G:AHeap} {v u f:Value} {l m c D:List Int} {es fs:List (Int × Int)} {K:Value→AHeap→Prop}

theorem getB_set {S:List Bool} {i j:Nat} (h:i<S.length):(S.set i true).getD j false=if i=j then true else S.getD j false:=by
 by_cases e:i=j
 ·subst e;simp [List.getD,h]
 ·simp [List.getD,List.getElem?_set,e]
theorem leaf_ok {n:Int} {pre:List Int} {H0:AHeap} {M:Nat} (hg:IsG n es) (he:Edges H0 v es) {a:Nat} {ta:TypeId} (h0:H0.le H) (o1:Own H a ta [.int .i64 n,v]) (hs:IsS pre es.length) (hu:Fresh M H u 2 1 (LI pre))
 (k:∀ G,H.le G→K (.tuple ⟨[u,.bool (wkQ es pre)]⟩) G):F143.B15 K u a H:=by
 have n0:=hg.ed.lo;have n1:=hg.ed.hi
 have h30:es.length≤30:=by have:=hg.ed.len;omega
 have hpl:=hs.short
 unfold F143.B15
 refine ld1_own o1 rfl ((he.le h0).len (mkR_int (by omega) (by omega) (by decide) fun H2 l2 n2 o2=>?_))
 rw [rep_b,Int.toNat_natCast] at o2
 rw [Int.toNat_natCast]
 unfold F143.B14 F143.L10
 refine ⟨fun x3 x4 x10 x11 G=>u=x3∧a=x4∧.slice (some ⟨H.length,0,none⟩) es.length (es.length+1)=x10∧H.le G∧∃ (i:Nat) (S:List Bool),x11=i∧i≤pre.length∧S.length=es.length∧Own G H.length 4 (LB S)∧∀ j:Nat,S.getD j false=true↔(j:Int)∈pre.take i,
  fun _ _ _ x11 _=>pre.length-x11.toNat,⟨rfl,rfl,rfl,l2,0,_,rfl,by omega,by simp,o2,fun j=>?_⟩,?_⟩
 ·have:(List.replicate es.length false).getD j false=false:=by simp only [List.getD,List.getElem?_replicate];split <;> rfl
  rw [this];simp
 rintro x3 x4 x10 x11 G ⟨rfl,rfl,rfl,lG,i,S,rfl,hi,hS,oS,hm⟩
 have huG:=hu.le lG
 unfold F143.B13
 refine huG.ints.len (pif_cases (fun hb=>?_) fun hb=>?_)
 ·have hil:i<pre.length:=by have:=of_decide_eq_true hb;omega
  have hr:=hs.range _ (List.getElem_mem hil)
  obtain ⟨w,hw⟩:∃ w:Nat,pre[i]=w:=⟨pre[i].toNat,by omega⟩
  unfold F143.B12
  refine huG.ints.rd (by omega) (by omega) ?_
  rw [Int.toNat_natCast,getD_of hil,hw]
  refine own_idx (by omega) (by omega) (stK_1 oS (by simp;omega) rfl fun G2 b2 o2=>?_)
  rw [Int.toNat_natCast] at o2
  have o2:Own G2 H.length 4 (LB (S.set w true)):=by simpa using o2
  unfold F143.B11
  rw [wrap_id (by omega) (by omega)]
  refine ⟨⟨rfl,rfl,rfl,b2.le lG (Nat.le_refl _),i+1,_,by omega,by omega,by simpa using hS,o2,fun j=>?_⟩,by show pre.length-((i:Int)+1).toNat<pre.length-(i:Int).toNat;omega⟩
  rw [List.take_succ_eq_append_getElem hil,List.mem_append,List.mem_singleton,hw,← hm j,getB_set (by omega)]
  by_cases e:w=j
  ·subst e;simp
  ·rw [if_neg e]
   constructor
   ·exact .inl
   ·rintro (h|h)
    ·exact h
    ·omega
 ·have hil:i=pre.length:=by have:=of_decide_eq_false hb;omega
  subst hil
  rw [List.take_length] at hm
  unfold F143.B9
  refine ldI_own (o1.le lG) rfl (ld1_own (o1.le lG) rfl (newK_f rfl fun G2 l3 n3 o3=>?_))
  have hout:(fun j=>S.getD j false)=bitB pre:=funext fun j=>by
   rw [Bool.eq_iff_iff,hm j,bitB_mem hs]
  refine l08Partial_ok hg (he.le (AHeap.le_trans h0 (AHeap.le_trans lG l3))) hS (oS.le l3) es.length [] G2 _ _ (by simp) (AHeap.le_refl _) (own_ints (l:=[]) o3) fun G3 l4=>asB_mk ?_
  rw [hout]
  exact k G3 (AHeap.le_trans lG (AHeap.le_trans l3 l4))
theorem l08Weak_ok {n:Int} {H0:AHeap} {M:Nat} (hg:IsG n es) (he:Edges H0 v es) :
 ∀ (left f:Nat) (pre:List Int) (H:AHeap) (K:Value→AHeap→Prop) (u:Value),M≤H.length→H0.le H→f≤es.length→pre.length+left≤1000→(∀ l∈cmb es.length left f,IsS (pre++l) es.length)→Fresh M H u 2 1 (LI pre)→
  (∀ w G,H.le G→(∀ l,((cmb es.length left f).map (pre++·)).find? (wkQ es)=some l→Fresh M G w 2 1 (LI l))→K (.tuple ⟨[w,.bool (((cmb es.length left f).map (pre++·)).find? (wkQ es)).isSome]⟩) G)→
  AC Tryz.prog T0 143 [.agg ⟨[.int .i64 n,v]⟩,.int .i64 (left:Nat),.int .i64 (f:Nat),u] H K:=by
 have n0:=hg.ed.lo;have n1:=hg.ed.hi
 have h30:es.length≤30:=by have:=hg.ed.len;omega
 intro left
 induction left with
 | zero=>
  intro f pre H K u hM h0 hf hpl hS hu kk
  have hs:IsS pre es.length:=by have:=hS [] (by simp [cmb_zero]);simpa using this
  apply F143.ac
  unfold F143.B17
  refine newK_f (all_iv (edges_one' (he.le h0))) fun H1 l1 n1' o1=>?_
  unfold F143.B16
  refine pif_t rfl (leaf_ok hg he (AHeap.le_trans h0 l1) o1 hs (hu.le l1) fun G lG=>?_)
  have kk:=kk u G (AHeap.le_trans l1 lG) fun l hl=>?_
  ·have e:(((cmb es.length 0 f).map (pre++·)).find? (wkQ es)).isSome=wkQ es pre:=by
    rw [← find_any,cmb_zero];simp
   rw [e] at kk;exact kk
  ·rw [cmb_zero,List.map_cons,List.find?_cons,List.append_nil] at hl
   cases hq:wkQ es pre with
   | true=>rw [hq] at hl;cases hl;exact hu.le (AHeap.le_trans l1 lG)
   | false=>rw [hq] at hl;cases hl
 | succ left ih=>
  intro f pre H K u hM h0 hf hpl hS hu kk
  apply F143.ac
  unfold F143.B17
  refine newK_f (all_iv (edges_one' (he.le h0))) fun H1 l1 n1' o1=>?_
  have h01:=AHeap.le_trans h0 l1
  have hl1:=l1.1
  unfold F143.B16
  refine pif_f (by rw [beq_eq_false_iff_ne];omega) ?_
  unfold F143.B8 F143.L2
  refine ⟨fun x1 x3 x4 x12 G=>((left+1:Nat):Int)=x1∧u=x3∧H.length=x4∧H1.le G∧∃ i:Nat,x12=i∧f≤i∧i≤es.length∧((cmbTo es.length left f i).map (pre++·)).find? (wkQ es)=none,
   fun _ _ _ x12 _=>es.length-x12.toNat,⟨rfl,rfl,rfl,AHeap.le_refl _,f,rfl,Nat.le_refl _,hf,by rw [cmbTo_start (Nat.le_refl _)];rfl⟩,?_⟩
  rintro x1 x3 x4 x12 G ⟨rfl,rfl,rfl,lG,i,rfl,hfi,hi,hno⟩
  have oG:=o1.le lG
  have h0G:=AHeap.le_trans h01 lG
  have hl1G:=lG.1
  have huG:=hu.le (AHeap.le_trans l1 lG)
  unfold F143.B7
  refine ld1_own oG rfl ((he.le h0G).len (pif_cases (fun hb=>?_) fun hb=>?_))
  ·have him:i<es.length:=by have:=of_decide_eq_true hb;omega
   have hmap:((cmb es.length left (i+1)).map ((i:Int)::·)).map (pre++·)=(cmb es.length left (i+1)).map ((pre++[(i:Int)])++·):=by
    rw [List.map_map];exact List.map_congr_left fun l _=>by simp
   have hsucc:(cmbTo es.length left f (i+1)).map (pre++·)=(cmbTo es.length left f i).map (pre++·)++(cmb es.length left (i+1)).map ((pre++[(i:Int)])++·):=by
    rw [cmbTo_succ hfi,List.map_append,hmap]
   have hall:∃ rest,(cmb es.length (left+1) f).map (pre++·)=(cmbTo es.length left f (i+1)).map (pre++·)++rest:=by
    have key:∀ d,i+1+d≤es.length→∃ rest,(cmbTo es.length left f (i+1+d)).map (pre++·)=(cmbTo es.length left f (i+1)).map (pre++·)++rest:=by
     intro d
     induction d with
     | zero=>intro _;exact ⟨[],by simp⟩
     | succ d ih=>
      intro hd
      obtain ⟨r,hr⟩:=ih (by omega)
      rw [← Nat.add_assoc,cmbTo_succ (by omega),List.map_append,hr,List.append_assoc]
      exact ⟨_,rfl⟩
    have:=key (es.length-(i+1)) (by omega)
    rwa [show i+1+(es.length-(i+1))=es.length by omega] at this
   unfold F143.B6
   refine ldI_own oG rfl (ld1_own oG rfl ⟨?_,?_⟩)
   all_goals first
    | refine l01Own_ok huG.ints (by omega) fun w G1 l2 f1=>⟨ldI_own (oG.le l2) rfl (ld1_own (oG.le l2) rfl ⟨rfl,rfl⟩),push_int (H0:=G) f1 l2 (by omega) fun v' G2 l3 f2 _=>⟨ldI_own (oG.le l3) rfl (ld1_own (oG.le l3) rfl ⟨rfl,rfl⟩),?_⟩⟩
    | refine newK_f rfl fun G0 l0 n0' o0=>l01Own_ok (huG.ints.le l0) (by omega) fun w G1 l2 f1=>⟨ldI_own (oG.le (AHeap.le_trans l0 l2)) rfl (ld1_own (oG.le (AHeap.le_trans l0 l2)) rfl ⟨rfl,rfl⟩),push_row (H0:=G) (f1.less l0.1) (AHeap.le_trans l0 l2) (o0.le l2) (by omega) fun v' G2 l3 f2=>⟨ldI_own (oG.le l3) rfl (ld1_own (oG.le l3) rfl ⟨rfl,rfl⟩),?_⟩⟩
   all_goals
    have hl3:=l3.1
    rw [wrap_id (by omega) (by omega),wrap_id (by omega) (by omega),show ((i:Nat):Int)+1=((i+1:Nat):Int) by omega,show (((left+1:Nat):Nat):Int)-1=((left:Nat):Int) by omega]
    refine ih (i+1) (pre++[(i:Int)]) G2 _ v' (by omega) (AHeap.le_trans h0G l3) (by omega) (by simp;omega) (fun l hl=>?_) (f2.less (by omega)) fun w G3 l4 hw=>tup2_mk (asB_mk ?_)
    ·have:(i:Int)::l∈cmb es.length (left+1) f:=by
      rw [cmb_succ,cmbTo,List.mem_flatMap]
      exact ⟨i,by rw [List.mem_filter,List.mem_range];exact ⟨by omega,by simpa using hfi⟩,List.mem_map.2 ⟨l,hl,rfl⟩⟩
     have:=hS _ this
     simpa using this
    ·have lG3:=AHeap.le_trans lG (AHeap.le_trans l3 l4)
     unfold F143.B5
     refine pif_cases (fun hq=>?_) fun hq=>?_
     ·unfold F143.B4
      obtain ⟨l,hl⟩:=Option.isSome_iff_exists.1 hq
      obtain ⟨rest,hr⟩:=hall
      have hf:((cmb es.length (left+1) f).map (pre++·)).find? (wkQ es)=some l:=by
       rw [hr,hsucc,List.find?_append,List.find?_append,hno,hl];rfl
      have kk:=kk w G3 (AHeap.le_trans l1 lG3) fun l' hl'=>by
       rw [hf] at hl';cases hl';exact hw l hl
      rw [hf] at kk
      exact kk
     ·unfold F143.B3
      rw [wrap_id (by omega) (by omega)]
      refine ⟨⟨rfl,rfl,rfl,lG3,i+1,by omega,by omega,by omega,?_⟩,by show es.length-((i:Int)+1).toNat<es.length-(i:Int).toNat;omega⟩
      rw [hsucc,List.find?_append,hno,Option.none_or]
      exact Option.not_isSome_iff_eq_none.1 (by rw [hq];decide)
  ·have him:i=es.length:=by have:=of_decide_eq_false hb;omega
   subst him
   unfold F143.B1
   rw [← cmb_succ] at hno
   have kk:=kk (.slice none 0 0) G (AHeap.le_trans l1 lG) fun l hl=>by rw [hno] at hl;cases hl
   rw [hno] at kk
   exact kk
theorem l08Set_ok {n:Int} (hg:IsG n es) (he:Edges H v es) (k:∀ w G,H.le G→Fresh H.length G w 2 1 (LI (wkOf es))→K w G) :
 AC Tryz.prog T0 79 [.agg ⟨[.int .i64 n,v]⟩] H K:=by
 have n0:=hg.ed.lo;have n1:=hg.ed.hi
 have h30:es.length≤30:=by have:=hg.ed.len;omega
 apply F79.ac
 unfold F79.B7
 refine newK_f (all_iv (edges_one' he)) fun H1 l1 n1' o1=>?_
 unfold F79.B6 F79.L1
 refine ⟨fun x1 x3 G=>H.length=x1∧H1.le G∧∃ i:Nat,x3=i∧i≤es.length∧weakF es (es.length+1-i) i=wkOf es,fun _ x3 _=>es.length-x3.toNat,⟨rfl,AHeap.le_refl _,0,rfl,by omega,rfl⟩,?_⟩
 rintro x1 x3 G ⟨rfl,lG,i,rfl,hi,hw⟩
 have oG:=o1.le lG
 have l1G:=AHeap.le_trans l1 lG
 have hl:=l1G.1
 unfold F79.B5
 refine ldI_own oG rfl (ld1_own oG rfl (newK_f rfl fun G2 l2 n2 o2=>?_))
 have hl2:=l2.1
 have ef:Fresh H.length G2 (.slice (some ⟨G.length,0,none⟩) 0 (0+1)) 2 1 (LI []):=.inr ⟨G.length,0,by omega,rfl,o2,rfl⟩
 have emap:(cmb es.length i 0).map ([]++·)=cmb es.length i 0:=by simp
 refine l08Weak_ok hg he i 0 [] G2 _ _ (by omega) (AHeap.le_trans l1G l2) (by omega) (by simp;omega) (fun l hl=>by rw [List.nil_append];exact (mem_cmb hl).2.1) ef fun w G3 l3 hf=>tup2_mk (asB_mk ?_)
 rw [emap] at hf ⊢
 have l13:=AHeap.le_trans lG (AHeap.le_trans l2 l3)
 unfold F79.B4
 refine pif_cases (fun hb=>?_) fun hb=>?_
 ·obtain ⟨l,hl⟩:=Option.isSome_iff_exists.1 hb
  unfold F79.B3
  have:wkOf es=l:=by
   rw [← hw,show es.length+1-i=(es.length-i)+1 by omega,weakF_some hl]
  have k:=k w G3 (AHeap.le_trans l1 l13)
  rw [this] at k
  exact k (hf l hl)
 ·have hnone:(cmb es.length i 0).find? (wkQ es)=none:=Option.not_isSome_iff_eq_none.1 (by rw [hb];decide)
  have hne:i≠es.length:=fun e=>by
   have:=weak_full (es:=es)
   rw [e] at hb
   rw [this] at hb;cases hb
  unfold F79.B2
  rw [wrap_id (by omega) (by omega)]
  refine ⟨⟨rfl,l13,i+1,by omega,by omega,?_⟩,by show es.length-((i:Int)+1).toNat<es.length-(i:Int).toNat;omega⟩
  rw [← hw,show es.length+1-i=(es.length-i)+1 by omega,weakF_none hnone]
  congr 1;omega
end Go.Proofs
namespace Go.Proofs
open Go.Abs

variable {H G:AHeap} {v u f:Value} {l m c D:List Int} {es fs:List (Int × Int)} {K:Value→AHeap→Prop}

noncomputable def wsL (n:Int) (es:List (Int × Int)):List Int:=if smCode n es 12=0 then wkOf es else []
noncomputable def rsN (n:Int) (es:List (Int × Int)):Int:=(wsL n es).length
theorem smCode_zero {n x:Int} (h:smCode n es x=0):IsG n es:=by
 unfold smCode at h
 by_cases hg:IsG n es
 ·exact hg
 ·rw [if_neg hg] at h;cases h
theorem wsL_small {n:Int}:(wsL n es).length≤1048576:=by
 unfold wsL
 by_cases h:smCode n es 12=0
 ·rw [if_pos h]
  have hg:=smCode_zero h
  have:=(wkOf_isS (es:=es)).short
  have:=hg.ed.len;have:=hg.ed.hi;omega
 ·rw [if_neg h];exact Nat.zero_le _
theorem specHead_ok {n:Int} {R:Value} (h:Edges H v es) (hl:es.length≤1048576) {B2 B3 B1:AHeap→Prop} {a:Nat} {ta:TypeId} (o1:Own H a ta [.int .i64 n,v])
 (k2:∀ G,H.le G→smCode n es 12=1→B2 G) (k3:∀ G,H.le G→smCode n es 12=3→B3 G) (k1:∀ G,H.le G→smCode n es 12=0→B1 G) :
 ldI .i64 H a 0 (fun v1=>ld1 H a 1 (fun v2=>AC Tryz.prog T0 68 [.agg ⟨[.int .i64 v1,v2]⟩] H (fun v3 H4=>asB v3 (fun v5=>pif (!v5) (B2 H4) (ldI .i64 H4 a 0 (fun v1=>pif (decide ((v1:Int)>12)) (B3 H4) (B1 H4))))))):=by
 refine ldI_own o1 rfl (ld1_own o1 rfl (l01Is_ok h hl fun H2 l2=>asB_mk (pif_cases (fun hs=>?_) fun hs=>?_)))
 ·have hg:¬ IsG n es:=by simpa using hs
  exact k2 H2 l2 (by unfold smCode;rw [if_neg hg])
 ·have hg:IsG n es:=by simpa using hs
  refine ldI_own (o1.le l2) rfl (pif_cases (fun hb=>?_) fun hb=>?_)
  ·exact k3 H2 l2 (by unfold smCode;rw [if_pos hg,if_pos (of_decide_eq_true hb)])
  ·exact k1 H2 l2 (by unfold smCode;rw [if_pos hg,if_neg (of_decide_eq_false hb)])
theorem specRes_ok {n:Int} (h:Edges H v es) (hl:es.length≤1048576) (k:∀ G,H.le G→K (.tuple ⟨[.int .i64 (rsN n es),.int .i64 (smCode n es 12)]⟩) G):AC Tryz.prog T0 21 [.agg ⟨[.int .i64 n,v]⟩] H K:=by
 apply F21.ac
 unfold F21.B6
 refine newK_f (all_iv (edges_one' h)) fun H1 l1 _ o1=>?_
 unfold F21.B5 F21.B4
 refine specHead_ok (R:=v) (h.le l1) hl o1 (fun G lG e=>?_) (fun G lG e=>?_) fun G lG e=>?_
 ·unfold F21.B2
  have k:=k G (AHeap.le_trans l1 lG)
  unfold rsN wsL at k
  rw [if_neg (by rw [e];decide),e] at k
  exact k
 ·unfold F21.B3
  have k:=k G (AHeap.le_trans l1 lG)
  unfold rsN wsL at k
  rw [if_neg (by rw [e];decide),e] at k
  exact k
 ·unfold F21.B1
  have l1G:=AHeap.le_trans l1 lG
  refine ldI_own (o1.le lG) rfl (ld1_own (o1.le lG) rfl (l08Set_ok (smCode_zero e) (h.le l1G) fun w G2 l2 hw=>hw.ints.len ?_))
  have k:=k G2 (AHeap.le_trans l1G l2)
  unfold rsN wsL at k
  rw [if_pos e,e] at k
  exact k
theorem specWeak_ok {n:Int} (h:Edges H v es) (hl:es.length≤1048576) (k:∀ v' G,H.le G→Fresh H.length G v' 2 1 (LI (wsL n es))→K (.tuple ⟨[v',.int .i64 (smCode n es 12)]⟩) G):AC Tryz.prog T0 23 [.agg ⟨[.int .i64 n,v]⟩] H K:=by
 apply F23.ac
 unfold F23.B6
 refine newK_f (all_iv (edges_one' h)) fun H1 l1 _ o1=>?_
 unfold F23.B5 F23.B4
 refine specHead_ok (R:=v) (h.le l1) hl o1 (fun G lG e=>?_) (fun G lG e=>?_) fun G lG e=>?_
 ·unfold F23.B2
  have k:=k (.slice none 0 0) G (AHeap.le_trans l1 lG)
  unfold wsL at k
  rw [if_neg (by rw [e];decide),e] at k
  exact k (.inl ⟨rfl,.inl rfl⟩)
 ·unfold F23.B3
  have k:=k (.slice none 0 0) G (AHeap.le_trans l1 lG)
  unfold wsL at k
  rw [if_neg (by rw [e];decide),e] at k
  exact k (.inl ⟨rfl,.inl rfl⟩)
 ·unfold F23.B1
  have l1G:=AHeap.le_trans l1 lG
  refine ldI_own (o1.le lG) rfl (ld1_own (o1.le lG) rfl (l08Set_ok (smCode_zero e) (h.le l1G) fun w G2 l2 hw=>?_))
  have k:=k w G2 (AHeap.le_trans l1G l2)
  unfold wsL at k
  rw [if_pos e,e] at k
  exact k (hw.less l1G.1)
theorem implRes_ok {n:Int} (h:Edges H v es) (hl:es.length≤1048576) (k:∀ G,H.le G→K (.tuple ⟨[.int .i64 (rsN n es),.int .i64 (smCode n es 12)]⟩) G):AC Tryz.prog T0 17 [.agg ⟨[.int .i64 n,v]⟩] H K:=by
 apply F17.ac
 unfold F17.B5
 refine newK_f (all_iv (edges_one' h)) fun H1 l1 _ o1=>?_
 unfold F17.B4
 refine ldI_own o1 rfl (ld1_own o1 rfl (smallCode_ok (h.le l1) hl fun H2 l2=>asI_mk ?_))
 have l12:=AHeap.le_trans l1 l2
 unfold F17.B3
 refine pif_cases (fun hs=>?_) fun hs=>?_
 ·unfold F17.B2
  have k:=k _ l12
  unfold rsN wsL at k
  rw [if_neg (bne_iff_ne.1 hs)] at k
  exact k
 ·have e:=bne_eq_false_iff_eq.1 hs
  have hg:=smCode_zero e
  have h30:es.length≤30:=by have:=hg.ed.len;have:=hg.ed.hi;omega
  have hS:=wkOf_isS (es:=es)
  have hsn:setN (wkOf es)<2^64:=setN_lt fun x hx=>by have:=hS.range x hx;omega
  unfold F17.B1
  refine ldI_own (o1.le l2) rfl (ld1_own (o1.le l2) rfl (weak_ok hg (h.le l12) fun H3 l3=>asI_mk (size_ok hsn (asI_mk ?_))))
  have k:=k _ (AHeap.le_trans l12 l3)
  unfold rsN wsL at k
  rw [if_pos e,e] at k
  have hpc:popc (setN (wkOf es)) 64=(wkOf es).length:=by
   show (bitsL (setN (wkOf es))).length=_
   rw [hS.bits (by omega)]
  rw [hpc]
  exact k
theorem implWeak_ok {n:Int} (h:Edges H v es) (hl:es.length≤1048576) (k:∀ v' G,H.le G→Fresh H.length G v' 2 1 (LI (wsL n es))→K (.tuple ⟨[v',.int .i64 (smCode n es 12)]⟩) G):AC Tryz.prog T0 22 [.agg ⟨[.int .i64 n,v]⟩] H K:=by
 apply F22.ac
 unfold F22.B5
 refine newK_f (all_iv (edges_one' h)) fun H1 l1 _ o1=>?_
 unfold F22.B4
 refine ldI_own o1 rfl (ld1_own o1 rfl (smallCode_ok (h.le l1) hl fun H2 l2=>asI_mk ?_))
 have l12:=AHeap.le_trans l1 l2
 unfold F22.B3
 refine pif_cases (fun hs=>?_) fun hs=>?_
 ·unfold F22.B2
  have k:=k (.slice none 0 0) _ l12
  unfold wsL at k
  rw [if_neg (bne_iff_ne.1 hs)] at k
  exact k (.inl ⟨rfl,.inl rfl⟩)
 ·have e:=bne_eq_false_iff_eq.1 hs
  have hg:=smCode_zero e
  have h30:es.length≤30:=by have:=hg.ed.len;have:=hg.ed.hi;omega
  have hS:=wkOf_isS (es:=es)
  have hsn:setN (wkOf es)<2^64:=setN_lt fun x hx=>by have:=hS.range x hx;omega
  unfold F22.B1
  refine ldI_own (o1.le l2) rfl (ld1_own (o1.le l2) rfl (weak_ok hg (h.le l12) fun H3 l3=>asI_mk (list_ok hsn fun w H4 l4 hw=>?_)))
  rw [hS.bits (by omega)] at hw
  have l13:=AHeap.le_trans l12 l3
  have k:=k w _ (AHeap.le_trans l13 l4)
  unfold wsL at k
  rw [if_pos e,e] at k
  exact k (hw.less l13.1)
end Go.Proofs
namespace Go.Proofs
open Go.Abs

variable {es:List (Int × Int)} {l c d O:List Int} {L:List (List Int)} {n:Int}

theorem ptB_some:∀ (E c:List Int),E.Nodup→(∀ x∈E,0≤x∧x<c.length∧c.getD x.toNat 0=-1)→(ptB es E c=true↔∃ d,d∈ptL es E c)
 | [],c,_,_=>by
  unfold ptB ptL
  simp
 | i::E,c,hn,hE=>by
  obtain ⟨h1,h2,h3⟩:=hE i (by simp)
  obtain ⟨q,rfl⟩:∃ q:Nat,i=q:=⟨i.toNat,by omega⟩
  rw [Int.toNat_natCast] at h3
  rw [List.nodup_cons] at hn
  rw [ptB_cons,ptL_cons h3]
  have step:∀ x:Nat,(ptB es E (c.set q (x:Int))=true↔∃ d,d∈ptL es E (c.set q (x:Int))):=fun x=>by
   refine ptB_some E _ hn.2 fun y hy=>?_
   obtain ⟨g1,g2,g3⟩:=hE y (by simp [hy])
   refine ⟨g1,by simpa using g2,?_⟩
   rw [getD_set_ne fun e=>hn.1 (by rw [show ((q:Nat):Int)=y by omega];exact hy)]
   exact g3
  unfold ptTo
  constructor
  ·rintro ⟨x,hx,hc,hp⟩
   rw [Int.toNat_natCast] at hc hp
   obtain ⟨d,hd⟩:=(step x).1 hp
   refine ⟨d,List.mem_flatMap.2 ⟨x,List.mem_range.2 hx,?_⟩⟩
   rw [hc]
   simpa using hd
  ·rintro ⟨d,hd⟩
   obtain ⟨x,hx,hd⟩:=List.mem_flatMap.1 hd
   cases hc:clashB es c q (x:Int) with
   | true=>rw [hc] at hd;simp at hd
   | false=>
    rw [hc] at hd
    simp only [Bool.false_eq_true,if_false] at hd
    exact ⟨x,List.mem_range.1 hx,by rw [Int.toNat_natCast];exact hc,by rw [Int.toNat_natCast];exact (step x).2 ⟨d,hd⟩⟩
theorem wkQ_iff (hs:IsS l es.length):wkQ es l=true↔∃ d,PrpC es d∧∀ j:Nat,j<es.length→bitB l j=false→0≤d.getD j 0:=by
 rw [wkQ_pt,show List.replicate es.length (-1:Int)=blank es from rfl]
 have hE:∀ x∈filtB (fun j=>!bitB l j) es.length,0≤x∧x<es.length∧(blank es).getD x.toNat 0=-1:=fun x hx=>by
  obtain ⟨j,rfl,h1,_⟩:=mem_filtB.1 hx
  exact ⟨by omega,by omega,by rw [Int.toNat_natCast];exact blank_get h1⟩
 rw [ptB_some _ _ (filtB_nodup _ _) fun x hx=>⟨(hE x hx).1,by rw [blank_prp.len];exact (hE x hx).2.1,(hE x hx).2.2⟩]
 constructor
 ·rintro ⟨d,hd⟩
  obtain ⟨g1,_,g3⟩:=ptL_sound _ _ blank_prp (fun x hx=>⟨(hE x hx).1,(hE x hx).2.1⟩) d hd
  refine ⟨d,g1,fun j hj hb=>?_⟩
  have:=g3 (j:Int) (mem_filtB.2 ⟨j,rfl,hj,by simp [hb]⟩)
  rwa [Int.toNat_natCast] at this
 ·rintro ⟨d,hd,hp⟩
  have hdl:=hd.len
  -- d, blank on the set
  refine ⟨(List.range es.length).map fun j:Nat=>if bitB l j then -1 else d.getD j 0,?_⟩
  have get:∀ q,q<es.length→((List.range es.length).map fun j:Nat=>if bitB l j then (-1:Int) else d.getD j 0).getD q 0=if bitB l q then -1 else d.getD q 0:=fun q hq=>by
   rw [getD_of (by simpa using hq),List.getElem_map,List.getElem_range]
  refine mem_ptL2 (by simp) _ _ blank_prp.len (filtB_nodup _ _) (fun i hi=>?_) (fun j hj hn=>?_) fun i j hi hj hij hs h0=>?_
  ·obtain ⟨j,rfl,h1,h2⟩:=mem_filtB.1 hi
   have hb:bitB l j=false:=by simpa using h2
   rw [Int.toNat_natCast,get j h1,hb]
   have h3:=hp j h1 hb
   have h4:=hd.rng j
   exact ⟨by omega,by omega,.inl (blank_get h1),h3,h4.2⟩
  ·have hb:bitB l j=true:=by
    cases h:bitB l j with
    | true=>rfl
    | false=>exact absurd (mem_filtB.2 ⟨j,rfl,hj,by simp [h]⟩) hn
   rw [get j hj,hb,blank_get hj];rfl
  ·rw [get i hi] at h0 ⊢
   rw [get j hj]
   cases hbi:bitB l i with
   | true=>rw [hbi] at h0;simp at h0
   | false=>
    rw [hbi] at h0
    simp only [Bool.false_eq_true,if_false] at h0 ⊢
    cases hbj:bitB l j with
    | true=>simp only [if_true];omega
    | false=>
     simp only [Bool.false_eq_true,if_false]
     exact hd.col i j hi hj hij hs h0
theorem find_least {q:List Int→Bool}:∀ {L:List (List Int)} {l:List Int},l∈L→q l=true→∃ l',L.find? q=some l'
 | L,l,hl,hq=>by
  have:(L.find? q).isSome=true:=List.find?_isSome.2 ⟨l,hl,hq⟩
  exact Option.isSome_iff_exists.1 this
theorem weakF_le (hs:IsS l es.length) (hq:wkQ es l=true):∀ (f k:Nat),k+f=es.length+1→k≤l.length→(weakF es f k).length≤l.length∧wkQ es (weakF es f k)=true
 | 0,k,h,hk=>by have:=hs.short2;omega
 | f+1,k,h,hk=>by
  cases hx:(cmb es.length k 0).find? (wkQ es) with
  | some l'=>
   rw [weakF_some hx]
   have:=mem_cmb (List.mem_of_find?_eq_some hx)
   exact ⟨by rw [this.1];exact hk,List.find?_some hx⟩
  | none=>
   rw [weakF_none hx]
   have hne:k≠l.length:=fun e=>by
    have hm:l∈cmb es.length k 0:=cmb_mem e.symm hs.asc fun x hx=>by have:=hs.range x hx;omega
    obtain ⟨l',h'⟩:=find_least hm hq
    rw [hx] at h';cases h'
   exact weakF_le hs hq f (k+1) (by omega) (by omega)
theorem wkOf_le (hs:IsS l es.length) (hq:wkQ es l=true):(wkOf es).length≤l.length∧wkQ es (wkOf es)=true:=weakF_le hs hq _ 0 (by omega) (by omega)
theorem wkQ_nil:wkQ es []=true↔∃ c,IsC es c:=by
 have hb:∀ j,bitB ([]:List Int) j=false:=fun j=>by unfold bitB setN;simp
 rw [wkQ_iff (isS_nil _)]
 constructor
 ·rintro ⟨d,hd,hp⟩
  refine ⟨d,hd.len,fun x hx=>?_,fun j hj i hij hs=>?_⟩
  ·obtain ⟨j,hj,rfl⟩:=List.getElem_of_mem hx
   rw [← getD_of (d:=0) hj]
   have hl:=hd.len
   exact ⟨hp j (by omega) (hb j),(hd.rng j).2⟩
  ·exact hd.col i j (by omega) hj (by omega) hs (hp i (by omega) (hb i))
 ·rintro ⟨c,hc⟩
  refine ⟨c,⟨hc.len,fun j=>by have:=hc.get j;omega,fun i j hi hj hij hs _=>?_⟩,fun j _ _=>(hc.get j).1⟩
  rcases Nat.lt_or_gt_of_ne hij with h|h
  ·exact hc.col j hj i h hs
  ·exact fun e=>hc.col i hi j h (share_symm hs) e.symm
theorem rsN_zero (h:smCode n es 12=0):rsN n es=0↔∃ c,IsC es c:=by
 have e:rsN n es=((wkOf es).length:Nat):=by unfold rsN wsL;rw [if_pos h]
 rw [e,← wkQ_nil]
 constructor
 ·intro h0
  obtain ⟨l,h1,h2⟩:=weak_some es
  have hm:=mem_cmb h1
  have:=(wkOf_le hm.2.1 h2).2
  rwa [List.length_eq_zero_iff.1 (show (wkOf es).length=0 by omega)] at this
 ·intro hq
  have h1:(wkOf es).length≤0:=(wkOf_le (isS_nil _) hq).1
  omega
end Go.Proofs
namespace Go.Proofs
open Go.Abs

variable {es:List (Int × Int)} {p:Nat→Bool} {l c:List Int} {n:Int} {e:Nat}

noncomputable def oddB (es:List (Int × Int)) (p:Nat→Bool) (e:Nat):Bool:=p e&&cLeadB es p e&&((compL es p e).length%2==1)
theorem odd_count (es:List (Int × Int)) (p:Nat→Bool):∀ k,oddSum (lensTo es p k)=(filtB (oddB es p) k).length
 | 0=>rfl
 | k+1=>by
  rw [lensTo,filtB_succ,List.length_append,← odd_count es p k]
  unfold oddB
  by_cases h1:p k=true∧cLeadB es p k=true
  ·rw [if_pos h1,oddSum_snoc,h1.1,h1.2]
   simp only [Bool.true_and]
   by_cases h2:(compL es p k).length%2=1
   ·rw [h2];rfl
   ·have:(compL es p k).length%2=0:=by omega
    rw [this];rfl
  ·rw [if_neg h1,List.append_nil]
   have:(p k&&cLeadB es p k)=false:=by
    cases hp:p k <;> cases hc:cLeadB es p k <;> simp_all
   rw [this];rfl
theorem res_le (hg:IsG n es) (hs:IsS l es.length) (ho:OneAt n es l):(wkOf es).length≤oddN es l:=by
 have h2:Deg2 n es (leftP l):=fun x hx _=>left_deg hg hs ho hx
 obtain ⟨C,hC⟩:∃ C,C=pntAll (List.replicate es.length 0) (cycW es (leftP l) es.length) (cycW es (leftP l) es.length).length:=⟨_,rfl⟩
 have hCl:C.length=es.length:=by rw [hC,pntAll_length,List.length_replicate]
 have cyc:∀ {e t:Nat},(e<es.length∧leftP l e=true∧cLeadB es (leftP l) e=true)→t<(compL es (leftP l) e).length→C.getD (wk es (leftP l) e t).1 0=1+((t%2:Nat):Int):=fun he ht=>by
  rw [hC];exact col_cyc hg h2 (by simp) he ht
 have mat:∀ {y:Nat},leftP l y=false→C.getD y 0=0:=fun {y} hp=>by
  rw [hC,col_mat hg h2 hp]
  by_cases hy:y<es.length <;> simp [List.getD,List.getElem?_replicate,hy]
 have pos:∀ {y:Nat},y<es.length→leftP l y=true→∃ t:Nat,C.getD y 0=1+((t%2:Nat):Int):=fun {y} hy hp=>by
  obtain ⟨e,he,hr⟩:=lead_get hy hp
  obtain ⟨t,ht,rfl⟩:=wk_time hg h2 he.1 he.2.1 hr
  exact ⟨t,cyc he ht⟩
 have inl:∀ {y:Nat},leftP l y=false→(y:Int)∈l:=fun {y} hp=>by
  unfold leftP at hp
  exact (bitB_mem hs y).1 (by simpa using hp)
 -- no colour for the first edges of odd cycles
 obtain ⟨d,hd⟩:∃ d:List Int,d=(List.range es.length).map fun j=>if oddB es (leftP l) j then -1 else C.getD j 0:=⟨_,rfl⟩
 have hdl:d.length=es.length:=by rw [hd];simp
 have dg:∀ j,j<es.length→d.getD j 0=if oddB es (leftP l) j then -1 else C.getD j 0:=fun j hj=>by
  rw [hd,getD_of (by simpa using hj),List.getElem_map,List.getElem_range]
 have rng:∀ {y:Nat},y<es.length→0≤C.getD y 0∧C.getD y 0≤2:=fun {y} hy=>by
  cases hp:leftP l y with
  | false=>rw [mat hp];omega
  | true=>obtain ⟨t,ht⟩:=pos hy hp;rw [ht];omega
 have hP:PrpC es d:=by
  refine ⟨hdl,fun j=>?_,fun i j hi hj hij hsh h0=>?_⟩
  ·by_cases hj:j<es.length
   ·rw [dg j hj]
    have:=rng hj
    split <;> omega
   ·rw [List.getD,List.getElem?_eq_none (by omega)];decide
  ·rw [dg i hi] at h0 ⊢
   rw [dg j hj]
   by_cases hoi:oddB es (leftP l) i=true
   ·rw [if_pos hoi] at h0;omega
   ·rw [if_neg hoi] at h0 ⊢
    by_cases hoj:oddB es (leftP l) j=true
    ·rw [if_pos hoj];omega
    ·rw [if_neg hoj]
     obtain ⟨x,hx,o1,o2⟩:=share_nat hg hi hsh
     cases hpi:leftP l i with
     | false=>
      rw [mat hpi]
      cases hpj:leftP l j with
      | false=>exact (one_two ho hij (inl hpi) (inl hpj) o1 o2 hx).elim
      | true=>obtain ⟨t,ht⟩:=pos hj hpj;rw [ht];omega
     | true=>
      cases hpj:leftP l j with
      | false=>obtain ⟨t,ht⟩:=pos hi hpi;rw [ht,mat hpj];omega
      | true=>
       obtain ⟨e,he,hr⟩:=lead_get hi hpi
       have hr2:Rch (eAdj es (leftP l)) e j:=.step hr ⟨hj,hpj,hsh⟩
       obtain ⟨s,hs',es1⟩:=wk_time hg h2 he.1 he.2.1 hr
       obtain ⟨t,ht',et1⟩:=wk_time hg h2 he.1 he.2.1 hr2
       rw [← es1,← et1,cyc he hs',cyc he ht']
       rw [← es1] at o1
       rw [← et1] at o2
       -- the first edge of an odd cycle has no colour
       have first:∀ y:Nat,¬ oddB es (leftP l) y=true→(wk es (leftP l) e 0).1=y→(compL es (leftP l) e).length%2=0:=fun y hy h=>by
        have h:e=y:=h
        subst h
        unfold oddB at hy
        rw [he.2.1,he.2.2,Bool.true_and,Bool.true_and,beq_iff_eq] at hy
        omega
       rcases Nat.lt_trichotomy s t with h|h|h
       ·rcases wk_adj hg h2 he.1 he.2.1 h ht' o1 o2 with h'|⟨h',h3⟩
        ·omega
        ·have:=first i hoi (by rw [← h'];exact es1)
         omega
       ·subst h;exact absurd (es1.symm.trans et1) hij
       ·rcases wk_adj hg h2 he.1 he.2.1 h hs' o2 o1 with h'|⟨h',h3⟩
        ·omega
        ·have:=first j hoj (by rw [← h'];exact et1)
         omega
 have hS:IsS (filtB (oddB es (leftP l)) es.length) es.length:=asc_isS (filtB_asc _ _) fun y hy=>by
  obtain ⟨j,rfl,hj,_⟩:=mem_filtB.1 hy;omega
 have hq:wkQ es (filtB (oddB es (leftP l)) es.length)=true:=(wkQ_iff hS).2 ⟨d,hP,fun j hj hb=>by
  rw [dg j hj]
  have:¬ oddB es (leftP l) j=true:=fun h=>by
   have:=bitB_filt.2 ⟨hj,h⟩
   rw [hb] at this;cases this
  rw [if_neg this]
  exact (rng hj).1⟩
 have:=(wkOf_le hS hq).1
 rw [← odd_count] at this
 exact this
theorem rs_le (h1:smCode n es 12=0) (h2:bmCode n es=0):rsN n es≤odVal n es:=by
 obtain ⟨hm,hs,ho,hv,_⟩:=bm_facts h2
 have hg:=smCode_zero h1
 have:=res_le hg hs ho
 rw [hv]
 unfold rsN wsL
 rw [if_pos h1]
 omega
end Go.Proofs
namespace Go.Proofs
open Go.Abs

variable {l m c d:List Int} {es fs:List (Int × Int)} {n:Int}

end Go.Proofs
namespace Go.Proofs
open Go.Abs

variable {l m c d:List Int} {es fs:List (Int × Int)} {n:Int}

end Go.Proofs
namespace Go.Proofs
open Go.Abs

variable {H G:AHeap} {v u w:Value} {l m c:List Int} {es fs:List (Int × Int)} {K:Value→AHeap→Prop} {n:Int}

end Go.Proofs
namespace Go.Proofs
open Go.Abs

variable {H G:AHeap} {v u f:Value} {l m c D:List Int} {es fs:List (Int × Int)} {K:Value→AHeap→Prop}

theorem usedG_none {N m:Nat}:UsedOk es N (List.replicate m (-1)) (List.replicate N 0):=by
 refine ⟨by simp,fun w hw=>?_⟩
 have e:(List.replicate N 0).getD w 0=0:=by simp [List.getD,hw]
 rw [e]
 refine ⟨by decide,fun k=>?_⟩
 simp only [Nat.zero_testBit,Bool.false_eq_true,false_iff]
 rintro ⟨j,h1,h2,_⟩
 rw [List.length_replicate] at h1
 have:(List.replicate m (-1:Int)).getD j 0=-1:=by simp [List.getD,h1]
 omega
theorem repG_get {m i:Nat} (h:i<m):(List.replicate m (-1:Int)).getD i 0=-1:=by simp [List.getD,h]
section
variable {n:Int} {H0:AHeap} {pb cb ub:Nat} {tP:TypeId} {qE fV:Value} {X:Nat→Prop} {J:List (List Int)→AHeap→Prop} {q:List Int→Bool} {N Bd:Nat}
theorem startG_ok {E:List Int} {done:List (List Int)} (hC:Caller es H0 pb cb ub fV X Bd J q N) (hg:IsG n es) (he:Edges H0 v es) (hE:Ints H0 qE E) (hEl:E.length≤1000) (hEr:∀ x∈E,0≤x∧x<es.length) (hcb:H0.length≤cb) (hub:H0.length≤ub) (hne:cb≠ub) (hp1:pb≠cb) (hp2:pb≠ub) (h0:H0.le G) (hBd:Bd≤G.length)
 (oP:Own G pb tP [.int .i64 n,v,qE,.slice (some ⟨cb,0,none⟩) es.length (es.length+1),.slice (some ⟨ub,0,none⟩) n.toNat (n.toNat+1),fV])
 (oc:Own G cb 2 (LI (blank es))) (ou:Own G ub 83 (LU (List.replicate n.toNat 0))) (hJ:J done G) (hN:done.length+(ptL es E (blank es)).length≤N)
 (k:∀ G',Fnd X G G'→J (done++upTo q (ptL es E (blank es))) G'→K (.bool ((ptL es E (blank es)).any q)) G') :
 AC Tryz.prog T0 128 [.pointer (some ⟨pb,0,none⟩)] G K:=by
 have n0:=hg.ed.lo;have n1:=hg.ed.hi
 have h30:es.length≤30:=by have:=hg.ed.len;omega
 have hbl:(blank es).length=es.length:=by unfold blank;simp
 apply F128.ac
 unfold F128.B17 F128.B16
 refine nilK_mk (asP_mk (ldI_own oP rfl ?_))
 unfold F128.L2
 refine ⟨fun x0 x11 x12 G'=>.pointer (some ⟨pb,0,none⟩)=x0∧n=x11∧G.le G'∧∃ i:Nat,x12=i∧i≤n.toNat,fun _ _ x12 _=>n.toNat-x12.toNat,⟨rfl,rfl,AHeap.le_refl _,0,rfl,by omega⟩,?_⟩
 rintro x0 x11 x12 G1 ⟨rfl,rfl,l1,i,rfl,hi⟩
 unfold F128.B15
 have oP1:=oP.le l1
 refine pif_cases (fun hb=>?_) fun hb=>?_
 ·have hin:i<n.toNat:=by have:=of_decide_eq_true hb;omega
  unfold F128.B14 F128.B13 F128.B12
  refine nilK_mk (asP_mk (ldI_own oP1 rfl (ld1_own oP1 rfl (at_ok (he.le (AHeap.le_trans h0 l1)) (by omega) fun w G2 l2 hW=>?_))))
  have h3:=hg.three (v:=(i:Int)) (by omega) (by omega)
  refine hW.len (by decide) (n:=3) (by rw [List.length_map,h3]) ?_
  unfold F128.L4
  refine ⟨fun x0 x4 x11 x12 x20 x21 x22 G'=>.pointer (some ⟨pb,0,none⟩)=x0∧n=x11∧((i:Nat):Int)=x12∧w=x20∧((3:Nat):Int)=x21∧G2=G'∧∃ t:Nat,x22=t∧t≤3,fun _ _ _ _ _ _ x22 _=>3-x22.toNat,⟨rfl,rfl,rfl,rfl,rfl,rfl,0,rfl,by omega⟩,?_⟩
  rintro x0 x4 x11 x12 x20 x21 x22 G' ⟨rfl,rfl,rfl,rfl,rfl,rfl,t,rfl,ht⟩
  have l12:=AHeap.le_trans l1 l2
  have oP2:=oP.le l12
  have oi:=own_ints (c:=es.length+1) (oc.le l12)
  rw [hbl] at oi
  unfold F128.B11
  refine pif_cases (fun hb=>?_) fun hb=>?_
  ·have ht3:t<3:=by have:=of_decide_eq_true hb;omega
   obtain ⟨j,hj1,hj2,hj3⟩:=at_get (es:=es) (w:=(i:Int)) (t:=t) (by omega)
   unfold F128.B10
   refine hW.ints.rd (by omega) (by omega) ?_
   rw [Int.toNat_natCast,hj1]
   unfold F128.B9
   refine nilK_mk (asP_mk (ld1_own oP2 rfl (oi.rd (by omega) (by omega) ?_)))
   rw [Int.toNat_natCast]
   have:(blank es).getD j 0=-1:=repG_get hj2
   rw [this]
   refine pif_t rfl ?_
   unfold F128.B5
   rw [wrap_id (by omega) (by omega)]
   exact ⟨⟨rfl,rfl,rfl,rfl,rfl,rfl,t+1,by omega,by omega⟩,by show 3-((t:Int)+1).toNat<3-(t:Int).toNat;omega⟩
  ·unfold F128.B3
   rw [wrap_id (by omega) (by omega)]
   exact ⟨⟨rfl,rfl,l12,i+1,by omega,by omega⟩,by show n.toNat-((i:Int)+1).toNat<n.toNat-(i:Int).toNat;omega⟩
 ·unfold F128.B1
  have hl1:=l1.1
  refine paintG_ok hC hg he hE hEl hEr hcb hub hne hp1 hp2 E.length 0 _ _ done G1 _ (by omega) (by omega) (AHeap.le_trans h0 l1) (by omega) oP1 (oc.le l1) (ou.le l1) hbl usedG_none (hC.st _ _ _ hJ (.le l1)) (by rw [List.drop_zero];exact hN) fun G2 f2 hJ2=>asB_mk ?_
  rw [List.drop_zero] at hJ2 ⊢
  exact k G2 ((Fnd.le l1).trans f2) hJ2
end
theorem painterG_ok {n:Int} {qE fV:Value} (hg:IsG n es) (he:Edges H v es) (hq:qE.oneCell'=true) (hf:fV.oneCell'=true)
 (k:∀ pb cb ub tP G,H.le G→H.length≤pb→H.length≤cb→H.length≤ub→cb≠ub→pb≠cb→pb≠ub→Own G pb tP [.int .i64 n,v,qE,.slice (some ⟨cb,0,none⟩) es.length (es.length+1),.slice (some ⟨ub,0,none⟩) n.toNat (n.toNat+1),fV]→
  Own G cb 2 (LI (blank es))→Own G ub 83 (LU (List.replicate n.toNat 0))→K (.pointer (some ⟨pb,0,none⟩)) G) :
 AC Tryz.prog T0 126 [.agg ⟨[.int .i64 n,v]⟩,qE,.bool false,fV] H K:=by
 have n0:=hg.ed.lo;have n1:=hg.ed.hi
 have h30:es.length≤30:=by have:=hg.ed.len;omega
 have hv:=edges_one' he
 apply F126.ac
 unfold F126.B10
 refine newK_f (all_iv hv) fun H1 l1 n1' o1=>?_
 have fin:∀ (G G':AHeap) (cb ub pb:Nat) (tP:TypeId),H1.le G→H1.length≤cb→H1.length≤ub→H1.length≤pb→cb≠ub→pb≠cb→pb≠ub→Own G pb tP [.int .i64 n,v,qE,.slice (some ⟨cb,0,none⟩) es.length (es.length+1),.slice (some ⟨ub,0,none⟩) n.toNat (n.toNat+1),fV]→
  Own G cb 2 (LI (List.replicate es.length (-1)))→Own G ub 83 (LU (List.replicate n.toNat 0))→F126.B8 K false H.length (.pointer (some ⟨pb,0,none⟩)) G:=by
  intro G G' cb ub pb tP hG h1 h2 h6 h3 h4 h5 oP oc ou
  unfold F126.B8
  refine pif_f rfl ?_
  unfold F126.B1
  have:=l1.1
  exact k pb cb ub tP G (AHeap.le_trans l1 hG) (by omega) (by omega) (by omega) h3 h4 h5 oP oc ou
 unfold F126.B9
 refine ldI_own o1 rfl (ld1_own o1 rfl (ld1_own o1 rfl ((he.le l1).len (ldI_own o1 rfl ⟨newK_f rfl fun H2 l2 n2 o2=>⟨?_,?_⟩,?_⟩))))
 ·refine repeat_ok (t:=-1) (by simpa using o2) (by omega) (by omega) fun H3 l3 o3=>?_
  have l13:=AHeap.le_trans l2 l3
  refine ⟨ldI_own (o1.le l13) rfl (ld1_own (o1.le l13) rfl ⟨rfl,rfl⟩),ldI_own (o1.le l13) rfl ⟨rfl,rfl⟩,mkR_int (by omega) (by omega) (by decide) fun H4 l4 n4 o4=>pif_t hq (pif_t rfl (pif_t rfl (pif_t hf (newK_f (by simp only [List.all_cons,List.all_nil,hv,hq,hf];rfl) fun H5 l5 n5 o5=>?_))))⟩
  rw [rep_u] at o4
  have:=lt_of_get o3
  have:=l2.1
  exact fin H5 H5 _ _ _ _ (AHeap.le_trans l13 (AHeap.le_trans l4 l5)) (by omega) (by have:=l3.1;omega) (by have:=l3.1;have:=l4.1;omega) (by omega) (by have:=l4.1;omega) (by omega) o5 (o3.le (AHeap.le_trans l4 l5)) (o4.le l5)
 ·refine mkR_int (by omega) (by omega) (by decide) fun H3 l3 n3 o3=>repeat_ok (t:=-1) (by simpa using o2.le l3) (by omega) (by omega) fun H4 l4 o4=>?_
  have l14:=AHeap.le_trans l2 (AHeap.le_trans l3 l4)
  refine ⟨ldI_own (o1.le l14) rfl (ld1_own (o1.le l14) rfl ⟨rfl,rfl⟩),ldI_own (o1.le l14) rfl ⟨rfl,rfl⟩,pif_t hq (pif_t rfl (pif_t rfl (pif_t hf (newK_f (by simp only [List.all_cons,List.all_nil,hv,hq,hf];rfl) fun H5 l5 n5 o5=>?_))))⟩
  rw [rep_u] at o3
  have:=lt_of_get o4
  have:=l2.1
  exact fin H5 H5 _ _ _ _ (AHeap.le_trans l14 l5) (by have:=l3.1;omega) (by omega) (by have:=l3.1;have:=l4.1;omega) (by omega) (by omega) (by have:=l4.1;omega) o5 (o4.le l5) (o3.le (AHeap.le_trans l4 l5))
 ·refine mkR_int (by omega) (by omega) (by decide) fun H2 l2 n2 o2=>newK_f rfl fun H3 l3 n3 o3=>repeat_ok (t:=-1) (by simpa using o3) (by omega) (by omega) fun H4 l4 o4=>?_
  have l14:=AHeap.le_trans l2 (AHeap.le_trans l3 l4)
  refine ⟨ldI_own (o1.le l14) rfl (ld1_own (o1.le l14) rfl ⟨rfl,rfl⟩),ldI_own (o1.le l14) rfl ⟨rfl,rfl⟩,pif_t hq (pif_t rfl (pif_t rfl (pif_t hf (newK_f (by simp only [List.all_cons,List.all_nil,hv,hq,hf];rfl) fun H5 l5 n5 o5=>?_))))⟩
  rw [rep_u] at o2
  have:=lt_of_get o4
  exact fin H5 H5 _ _ _ _ (AHeap.le_trans l14 l5) (by have:=l2.1;have:=l3.1;omega) (by omega) (by have:=l2.1;have:=l3.1;have:=l4.1;omega) (by have:=l3.1;omega) (by omega) (by have:=l3.1;have:=l4.1;omega) o5 (o4.le l5) (o2.le (AHeap.le_trans l3 (AHeap.le_trans l4 l5)))
theorem partEdges_ok {n:Int} (h:Edges H v es) (hg:IsG n es) (k:∀ v' G,H.le G→RowsF (fun b=>H.length≤b) G.length G v' (partL es n.toNat)→K v' G) :
 AC Tryz.prog T0 125 [.agg ⟨[.int .i64 n,v]⟩] H K:=by
 have n0:=hg.ed.lo;have n1:=hg.ed.hi
 have h30:es.length≤30:=by have:=hg.ed.len;omega
 have hz:restL es (fun j=>(0:Nat).testBit j)=es:=restL_none es fun j=>Nat.zero_testBit j
 apply F125.ac
 unfold F125.B18
 refine newK_f (all_iv (edges_one' h)) fun H1 l1 n1' o1=>?_
 unfold F125.B17 F125.B16
 refine ldI_own o1 rfl (ld1_own o1 rfl (sides_ok (s:=0) (h.le l1) hg (by decide) fun q H2 l2 hR=>?_))
 rw [hz] at hR
 have l12:=AHeap.le_trans l1 l2
 have o2:=o1.le l2
 have hll:=leadL_length es n.toNat
 have hpl:=partL_length (es:=es) n.toNat
 have hsn:=sidesN_le es n.toNat
 refine hR.len ?_
 unfold F125.L2
 refine ⟨fun x1 x3 x11 x12 x13 G=>H.length=x1∧q=x11∧(((sidesL es n.toNat).length:Nat):Int)=x12∧Keep H2.length H2 G∧∃ i:Nat,x13=i∧i≤(sidesL es n.toNat).length∧RowsF (fun b=>H2.length≤b) G.length G x3 ((partL es n.toNat).take i),fun _ _ _ _ x13 _=>(sidesL es n.toNat).length-x13.toNat,
  ⟨rfl,rfl,rfl,.refl,0,rfl,by omega,.nil⟩,?_⟩
 rintro x1 x3 x11 x12 x13 G ⟨rfl,rfl,rfl,kp,i,rfl,hi,hX⟩
 have lG:H.le G:=kp.le l12 l12.1
 have hRG:=hR.keep kp
 have oG:=kp.own o2 o2.lt
 have hGl:=kp.len
 unfold F125.B15
 refine pif_cases (fun hb=>?_) fun hb=>?_
 ·have hlt:i<(sidesL es n.toNat).length:=by have:=of_decide_eq_true hb;omega
  have hlt':i<(leadL es n.toNat).length:=by omega
  obtain ⟨s1,s2,s3⟩:=leadL_get hlt'
  have hpg:=partL_get hlt'
  obtain ⟨w,hw⟩:∃ w,w=(leadL es n.toNat)[i]:=⟨_,rfl⟩
  rw [← hw] at s1 s2 s3 hpg
  unfold F125.B14
  refine hRG.row hlt fun y fy=>?_
  rw [s1] at fy
  have hside:∀ x∈sideL es n.toNat w,0≤x∧x<64:=fun x hx=>by obtain ⟨j,rfl,hj,_⟩:=mem_sideL.1 hx;omega
  have hs64:setN (sideL es n.toNat w)<2^64:=setN_lt fun x hx=>(hside x hx).2
  have hslen:(sideL es n.toNat w).length≤n.toNat:=filtB_length _ _
  unfold F125.B13
  refine setOf_ok fy.ints (by omega) hside (asI_mk ?_)
  unfold F125.B12 F125.B11
  refine ld1_own oG rfl ((h.le lG).len ?_)
  unfold F125.L5
  refine ⟨fun x1 y3 x6 x7 x11 x12 x13 x20 x21 x22 G'=>H.length=x1∧x3=y3∧((setN (sideL es n.toNat w):Nat):Int)=x6∧q=x11∧(((sidesL es n.toNat).length:Nat):Int)=x12∧(i:Int)=x13∧v=x20∧(es.length:Int)=x21∧Keep G.length G G'∧∃ t:Nat,x22=t∧t≤es.length∧Fresh G.length G' x7 2 1 (LI (filtB (partB es w) t)),fun _ _ _ _ _ _ _ _ _ x22 _=>es.length-x22.toNat,
   ⟨rfl,rfl,rfl,rfl,rfl,rfl,rfl,rfl,.refl,0,rfl,by omega,.inl ⟨rfl,.inl rfl⟩⟩,?_⟩
  rintro x1 y3 x6 x7 x11 x12 x13 x20 x21 x22 G' ⟨rfl,rfl,rfl,rfl,rfl,rfl,rfl,rfl,kp',t,rfl,ht,hF⟩
  have lG':H.le G':=kp'.le lG lG.1
  unfold F125.B10
  refine pif_cases (fun hb=>?_) fun hb=>?_
  ·have hlt2:t<es.length:=by have:=of_decide_eq_true hb;omega
   have hm:es.getD t (0,0)∈es:=by rw [getD_of hlt2];exact List.getElem_mem _
   have hr:=isG_ends hg _ hm
   obtain ⟨bb,oo,hk,q1,q2⟩:=(h.le lG').idx (show (0:Int)≤t by omega) (by omega)
   simp only [Int.toNat_natCast] at q1 q2
   have hfl:=filtB_length (partB es w) t
   unfold F125.B9
   refine hk _ (ldI_mk q1 (ldI_mk q2 (newK_f rfl fun G2 l2' n2 o2'=>stK_f (new:=[.int .i64 (es.getD t (0,0)).1,.int .i64 (es.getD t (0,0)).2]) o2' (by simp) (by simp [Value.oneCell']) rfl fun G3 b3 o3=>?_)))
   have l3:G'.le G3:=b3.le l2' (Nat.le_refl _)
   have b1:(setN (sideL es n.toNat w)).testBit (es.getD t (0,0)).1.toNat=partB es w t:=side_bit (by omega)
   unfold F125.B8
   refine ldI_own o3 rfl (has_ok hs64 hr.1 (asB_mk ?_))
   rw [b1]
   have kp3:=kp'.trans (.of_le l3)
   have hF3:=hF.le l3
   refine pif_cases (fun hc=>?_) fun hc=>?_
   ·unfold F125.B7
    refine hF3.sl.pushN E_int (by decide) kp3.len (n:=1) (ys:=[.int .i64 (t:Int)]) rfl rfl (by simp;omega) (by simp) fun v3 G4 k4 _ _ f4=>?_
    unfold F125.B6
    rw [wrap_id (by omega) (by omega)]
    refine ⟨⟨rfl,rfl,rfl,rfl,rfl,rfl,rfl,rfl,kp3.trans k4,t+1,by omega,by omega,?_⟩,by simp;omega⟩
    rw [filtB_succ,hc];simpa using f4
   ·unfold F125.B6
    rw [wrap_id (by omega) (by omega)]
    refine ⟨⟨rfl,rfl,rfl,rfl,rfl,rfl,rfl,rfl,kp3,t+1,by omega,by omega,?_⟩,by simp;omega⟩
    rw [filtB_succ,hc];simpa using hF3
  ·have hte:t=es.length:=by have:=of_decide_eq_false hb;omega
   subst hte
   have hX':=hX.keep kp'
   have hx3:∀ b,bk x3=some b→H2.length≤b:=fun b hb=>by
    obtain ⟨vs,_,_,q3,_⟩:=hX
    exact (q3 b hb).1
   unfold F125.B4
   refine hX'.push kp'.len (fun b hb=>by omega) hF (by rw [List.length_take];omega) fun v' G4 ot nb hlen hR4=>?_
   unfold F125.B3
   rw [wrap_id (by omega) (by omega)]
   have hgl':=kp'.len
   refine ⟨⟨rfl,rfl,rfl,⟨by omega,fun b o hb ho=>ot b o (fun e=>by have:=hx3 b e;omega) (kp'.old b o (by have:=kp.len;omega) (kp.old b o hb ho))⟩,i+1,by omega,by omega,?_⟩,by simp;omega⟩
   rw [List.take_succ_eq_append_getElem (by omega),← getD_of (d:=[]) (by omega),hpg]
   exact hR4
 ·have hie:i=(sidesL es n.toNat).length:=by have:=of_decide_eq_false hb;omega
  subst hie
  unfold F125.B1
  rw [List.take_of_length_le (by omega)] at hX
  exact k x3 G lG (hX.mono (fun b hb=>by have:=l12.1;omega) (Nat.le_refl _))
end Go.Proofs
namespace Go.Proofs
open Go.Abs

variable {H G:AHeap} {v u w pu:Value} {l m c E A:List Int} {es fs:List (Int × Int)} {K:Value→AHeap→Prop} {n:Int}

end Go.Proofs
namespace Go.Proofs
open Go.Abs

variable {es fs:List (Int × Int)} {n:Int} {e f:Nat}

end Go.Proofs
namespace Go.Proofs
open Go.Abs

variable {H G:AHeap} {v u w:Value} {es fs:List (Int × Int)} {K:Value→AHeap→Prop} {n e f:Int}

end Go.Proofs
namespace Go.Proofs
open Go.Abs

variable {H G:AHeap} {v u f:Value} {l m c D:List Int} {es fs:List (Int × Int)} {K:Value→AHeap→Prop}

theorem sl_two {m0:Nat} {t:TypeId} {z:Nat} {cs:List Value} (h:Sl m0 H v t z cs) (k:∀ (b:Nat) (o:AObj),m0≤b→H[b]?=some (some o)→G[b]?=some (some o)):Sl m0 G v t z cs:=by
 rcases h with h|⟨b,n,pre,post,h1,h2,h3,h4⟩
 ·exact .inl h
 ·exact .inr ⟨b,n,pre,post,h1,h2,k b _ h1 h3,h4⟩
theorem painterB_ok {bb:Bool} {n:Int} {qE fV:Value} (hg:IsG n es) (he:Edges H v es) (hq:qE.oneCell'=true) (hf:fV.oneCell'=true)
 (k:∀ pb cb ub tP G,H.le G→H.length≤pb→H.length≤cb→H.length≤ub→cb≠ub→pb≠cb→pb≠ub→Own G pb tP [.int .i64 n,v,qE,.slice (some ⟨cb,0,none⟩) es.length (es.length+1),.slice (some ⟨ub,0,none⟩) n.toNat (n.toNat+1),fV]→
  Own G cb 2 (LI (blank es))→Own G ub 83 (LU (List.replicate n.toNat 0))→Own G H.length 31 [.int .i64 n,v]→F126.B8 K bb H.length (.pointer (some ⟨pb,0,none⟩)) G) :
 AC Tryz.prog T0 126 [.agg ⟨[.int .i64 n,v]⟩,qE,.bool bb,fV] H K:=by
 have n0:=hg.ed.lo;have n1:=hg.ed.hi
 have h30:es.length≤30:=by have:=hg.ed.len;omega
 have hv:=edges_one' he
 apply F126.ac
 unfold F126.B10
 refine newK_f (all_iv hv) fun H1 l1 n1' o1=>?_
 have fin:∀ (G G':AHeap) (cb ub pb:Nat) (tP:TypeId),H1.le G→H1.length≤cb→H1.length≤ub→H1.length≤pb→cb≠ub→pb≠cb→pb≠ub→Own G pb tP [.int .i64 n,v,qE,.slice (some ⟨cb,0,none⟩) es.length (es.length+1),.slice (some ⟨ub,0,none⟩) n.toNat (n.toNat+1),fV]→
  Own G cb 2 (LI (List.replicate es.length (-1)))→Own G ub 83 (LU (List.replicate n.toNat 0))→F126.B8 K bb H.length (.pointer (some ⟨pb,0,none⟩)) G:=by
  intro G G' cb ub pb tP hG h1 h2 h6 h3 h4 h5 oP oc ou
  have:=l1.1
  exact k pb cb ub tP G (AHeap.le_trans l1 hG) (by omega) (by omega) (by omega) h3 h4 h5 oP oc ou (o1.le hG)
 unfold F126.B9
 refine ldI_own o1 rfl (ld1_own o1 rfl (ld1_own o1 rfl ((he.le l1).len (ldI_own o1 rfl ⟨newK_f rfl fun H2 l2 n2 o2=>⟨?_,?_⟩,?_⟩))))
 ·refine repeat_ok (t:=-1) (by simpa using o2) (by omega) (by omega) fun H3 l3 o3=>?_
  have l13:=AHeap.le_trans l2 l3
  refine ⟨ldI_own (o1.le l13) rfl (ld1_own (o1.le l13) rfl ⟨rfl,rfl⟩),ldI_own (o1.le l13) rfl ⟨rfl,rfl⟩,mkR_int (by omega) (by omega) (by decide) fun H4 l4 n4 o4=>pif_t hq (pif_t rfl (pif_t rfl (pif_t hf (newK_f (by simp only [List.all_cons,List.all_nil,hv,hq,hf];rfl) fun H5 l5 n5 o5=>?_))))⟩
  rw [rep_u] at o4
  have:=lt_of_get o3
  have:=l2.1
  exact fin H5 H5 _ _ _ _ (AHeap.le_trans l13 (AHeap.le_trans l4 l5)) (by omega) (by have:=l3.1;omega) (by have:=l3.1;have:=l4.1;omega) (by omega) (by have:=l4.1;omega) (by omega) o5 (o3.le (AHeap.le_trans l4 l5)) (o4.le l5)
 ·refine mkR_int (by omega) (by omega) (by decide) fun H3 l3 n3 o3=>repeat_ok (t:=-1) (by simpa using o2.le l3) (by omega) (by omega) fun H4 l4 o4=>?_
  have l14:=AHeap.le_trans l2 (AHeap.le_trans l3 l4)
  refine ⟨ldI_own (o1.le l14) rfl (ld1_own (o1.le l14) rfl ⟨rfl,rfl⟩),ldI_own (o1.le l14) rfl ⟨rfl,rfl⟩,pif_t hq (pif_t rfl (pif_t rfl (pif_t hf (newK_f (by simp only [List.all_cons,List.all_nil,hv,hq,hf];rfl) fun H5 l5 n5 o5=>?_))))⟩
  rw [rep_u] at o3
  have:=lt_of_get o4
  have:=l2.1
  exact fin H5 H5 _ _ _ _ (AHeap.le_trans l14 l5) (by have:=l3.1;omega) (by omega) (by have:=l3.1;have:=l4.1;omega) (by omega) (by omega) (by have:=l4.1;omega) o5 (o4.le l5) (o3.le (AHeap.le_trans l4 l5))
 ·refine mkR_int (by omega) (by omega) (by decide) fun H2 l2 n2 o2=>newK_f rfl fun H3 l3 n3 o3=>repeat_ok (t:=-1) (by simpa using o3) (by omega) (by omega) fun H4 l4 o4=>?_
  have l14:=AHeap.le_trans l2 (AHeap.le_trans l3 l4)
  refine ⟨ldI_own (o1.le l14) rfl (ld1_own (o1.le l14) rfl ⟨rfl,rfl⟩),ldI_own (o1.le l14) rfl ⟨rfl,rfl⟩,pif_t hq (pif_t rfl (pif_t rfl (pif_t hf (newK_f (by simp only [List.all_cons,List.all_nil,hv,hq,hf];rfl) fun H5 l5 n5 o5=>?_))))⟩
  rw [rep_u] at o2
  have:=lt_of_get o4
  exact fin H5 H5 _ _ _ _ (AHeap.le_trans l14 l5) (by have:=l2.1;have:=l3.1;omega) (by omega) (by have:=l2.1;have:=l3.1;have:=l4.1;omega) (by have:=l3.1;omega) (by omega) (by have:=l3.1;have:=l4.1;omega) o5 (o4.le l5) (o2.le (AHeap.le_trans l3 (AHeap.le_trans l4 l5)))
theorem painterN_ok {n:Int} {qE fV:Value} (hg:IsG n es) (he:Edges H v es) (hq:qE.oneCell'=true) (hf:fV.oneCell'=true)
 (k:∀ pb cb ub tP us G,H.le G→H.length≤pb→H.length≤cb→H.length≤ub→cb≠ub→pb≠cb→pb≠ub→Own G pb tP [.int .i64 n,v,qE,.slice (some ⟨cb,0,none⟩) es.length (es.length+1),.slice (some ⟨ub,0,none⟩) n.toNat (n.toNat+1),fV]→
  Own G cb 2 (LI (nstTo es 3))→Own G ub 83 (LU us)→UsedOk es n.toNat (nstTo es 3) us→K (.pointer (some ⟨pb,0,none⟩)) G) :
 AC Tryz.prog T0 126 [.agg ⟨[.int .i64 n,v]⟩,qE,.bool true,fV] H K:=by
 have n0:=hg.ed.lo;have n1:=hg.ed.hi
 have h30:es.length≤30:=by have:=hg.ed.len;omega
 refine painterB_ok hg he hq hf fun pb cb ub tP G lG hp hc hu q3 q4 q5 oP oc ou oG=>?_
 unfold F126.B8
 refine pif_t rfl ?_
 unfold F126.B7
 refine ldI_own oG rfl (ld1_own oG rfl (at_ok (he.le lG) (by omega) fun w G2 l2 hW=>?_))
 have h3:=hg.three (v:=0) (by omega) (by omega)
 refine hW.len (by decide) (n:=3) (by rw [List.length_map,h3]) ?_
 have hcl:=lt_of_get oc
 have hul:=lt_of_get ou
 have hpl:=lt_of_get oP
 unfold F126.L2
 refine ⟨fun x9 x27 x28 x29 G'=>.pointer (some ⟨pb,0,none⟩)=x9∧w=x27∧((3:Nat):Int)=x28∧∃ (t:Nat) (us:List Nat),x29=t∧t≤3∧Two cb ub G2 G'∧Own G' cb 2 (LI (nstTo es t))∧Own G' ub 83 (LU us)∧UsedOk es n.toNat (nstTo es t) us,fun _ _ _ x29 _=>3-x29.toNat,
  ⟨rfl,rfl,rfl,0,_,rfl,by omega,.le (AHeap.le_refl _),oc.le l2,ou.le l2,usedG_none⟩,?_⟩
 rintro x9 x27 x28 x29 G' ⟨rfl,rfl,rfl,t,us,rfl,ht,tw,oc',ou',hU⟩
 have oP':=tw.old _ _ q4 q5 (oP.le l2)
 have lG':=tw.base (AHeap.le_trans lG l2) hc hu
 unfold F126.B6
 refine pif_cases (fun hb=>?_) fun hb=>?_
 ·have ht3:t<3:=by have:=of_decide_eq_true hb;omega
  have hW':Ints G' w (atL es 0):=(sl_two hW fun b o hb ho=>tw.old b o (by omega) (by omega) ho).ints
  obtain ⟨j,hj1,hj2,hj3⟩:=at0_get hg ht3
  unfold F126.B5
  refine hW'.rd (by omega) (by omega) ?_
  rw [Int.toNat_natCast,hj1]
  unfold F126.B4
  have hbl:(nstTo es t).getD j 0=-1:=nstTo_out hg hj2 ht fun s hs e=>by
   have:=at0_inj hg (s:=s) (t:=t) (by omega) ht3 (by rw [e,hj1])
   omega
  have hul':=hU.1
  refine give_ok (x:=t) hg he lG' hc hu q3 q4 q5 oP' oc' ou' (nstTo_len t) hul' (fun w hw=>(hU.2 w hw).1) hj2 (by omega) fun G3 t3 oc3 ou3=>asTup_mk ?_
  obtain ⟨a,b,e1,e2,e3⟩:=edge_ends hg hj2
  have hU3:=hU.give (x:=t) (by rw [nstTo_len];exact hj2) hbl e1 (by omega) (by omega) (by omega) (by omega)
  rw [e1,Int.toNat_natCast,Int.toNat_natCast] at ou3
  unfold F126.B3
  rw [wrap_id (by omega) (by omega)]
  have hs:nstTo es (t+1)=(nstTo es t).set j (t:Int):=by rw [nstTo,hj1,Int.toNat_natCast]
  exact ⟨⟨rfl,rfl,rfl,t+1,_,by omega,by omega,tw.trans t3,by rw [hs];exact oc3,ou3,by rw [hs];exact hU3⟩,by simp;omega⟩
 ·have:t=3:=by have:=of_decide_eq_false hb;omega
  subst this
  unfold F126.B1
  exact k pb cb ub tP us G' lG' hp hc hu q3 q4 q5 oP' oc' ou' hU
section
variable {n:Int} {H0:AHeap} {pb cb ub:Nat} {tP:TypeId} {qE fV:Value} {X:Nat→Prop} {J:List (List Int)→AHeap→Prop} {q:List Int→Bool} {N Bd:Nat}
theorem startN_ok {E:List Int} {us:List Nat} {done:List (List Int)} (hC:Caller es H0 pb cb ub fV X Bd J q N) (hg:IsG n es) (he:Edges H0 v es) (hE:Ints H0 qE E) (hEl:E.length≤1000) (hEr:∀ x∈E,0≤x∧x<es.length) (hcb:H0.length≤cb) (hub:H0.length≤ub) (hne:cb≠ub) (hp1:pb≠cb) (hp2:pb≠ub) (h0:H0.le G) (hBd:Bd≤G.length) (hc:PrpC es c) (hU:UsedOk es n.toNat c us)
 (oP:Own G pb tP [.int .i64 n,v,qE,.slice (some ⟨cb,0,none⟩) es.length (es.length+1),.slice (some ⟨ub,0,none⟩) n.toNat (n.toNat+1),fV])
 (oc:Own G cb 2 (LI c)) (ou:Own G ub 83 (LU us)) (hJ:J done G) (hN:done.length+(ptL es E c).length≤N)
 (k:∀ G',Fnd X G G'→J (done++upTo q (ptL es E c)) G'→K (.bool ((ptL es E c).any q)) G') :
 AC Tryz.prog T0 128 [.pointer (some ⟨pb,0,none⟩)] G K:=by
 have n0:=hg.ed.lo;have n1:=hg.ed.hi
 have h30:es.length≤30:=by have:=hg.ed.len;omega
 have hcl:=hc.len
 apply F128.ac
 unfold F128.B17 F128.B16
 refine nilK_mk (asP_mk (ldI_own oP rfl ?_))
 unfold F128.L2
 refine ⟨fun x0 x11 x12 G'=>.pointer (some ⟨pb,0,none⟩)=x0∧n=x11∧G.le G'∧∃ i:Nat,x12=i∧i≤n.toNat,fun _ _ x12 _=>n.toNat-x12.toNat,⟨rfl,rfl,AHeap.le_refl _,0,rfl,by omega⟩,?_⟩
 rintro x0 x11 x12 G1 ⟨rfl,rfl,l1,i,rfl,hi⟩
 unfold F128.B15
 have oP1:=oP.le l1
 refine pif_cases (fun hb=>?_) fun hb=>?_
 ·have hin:i<n.toNat:=by have:=of_decide_eq_true hb;omega
  unfold F128.B14 F128.B13 F128.B12
  refine nilK_mk (asP_mk (ldI_own oP1 rfl (ld1_own oP1 rfl (at_ok (he.le (AHeap.le_trans h0 l1)) (by omega) fun w G2 l2 hW=>?_))))
  have h3:=hg.three (v:=(i:Int)) (by omega) (by omega)
  refine hW.len (by decide) (n:=3) (by rw [List.length_map,h3]) ?_
  unfold F128.L4
  refine ⟨fun x0 x4 x11 x12 x20 x21 x22 G'=>.pointer (some ⟨pb,0,none⟩)=x0∧n=x11∧((i:Nat):Int)=x12∧w=x20∧((3:Nat):Int)=x21∧G2=G'∧∃ t s:Nat,x22=t∧t≤3∧x4=s∧s<2^64∧∀ k:Nat,s.testBit k=true↔∃ t',t'<t∧c.getD ((atL es (i:Int)).getD t' 0).toNat 0=k,fun _ _ _ _ _ _ x22 _=>3-x22.toNat,⟨rfl,rfl,rfl,rfl,rfl,rfl,0,0,rfl,by omega,rfl,by decide,fun k=>by simp⟩,?_⟩
  rintro x0 x4 x11 x12 x20 x21 x22 G' ⟨rfl,rfl,rfl,rfl,rfl,rfl,t,s,rfl,ht,rfl,hs64,hs⟩
  have l12:=AHeap.le_trans l1 l2
  have oP2:=oP.le l12
  have oi:=own_ints (c:=es.length+1) (oc.le l12)
  rw [hcl] at oi
  unfold F128.B11
  refine pif_cases (fun hb=>?_) fun hb=>?_
  ·have ht3:t<3:=by have:=of_decide_eq_true hb;omega
   obtain ⟨j,hj1,hj2,hj3⟩:=at_get (es:=es) (w:=(i:Int)) (t:=t) (by omega)
   unfold F128.B10
   refine hW.ints.rd (by omega) (by omega) ?_
   rw [Int.toNat_natCast,hj1]
   unfold F128.B9
   refine nilK_mk (asP_mk (ld1_own oP2 rfl (oi.rd (by omega) (by omega) ?_)))
   rw [Int.toNat_natCast]
   have hrj:=hc.rng j
   refine pif_cases (fun hc1=>?_) fun hc1=>?_
   ·have hc1:c.getD j 0=-1:=beq_iff_eq.1 hc1
    unfold F128.B5
    rw [wrap_id (by omega) (by omega)]
    refine ⟨⟨rfl,rfl,rfl,rfl,rfl,rfl,t+1,s,by omega,by omega,rfl,hs64,fun k=>?_⟩,by show 3-((t:Int)+1).toNat<3-(t:Int).toNat;omega⟩
    rw [hs k]
    constructor
    ·rintro ⟨t',h1,h2⟩;exact ⟨t',by omega,h2⟩
    ·rintro ⟨t',h1,h2⟩
     by_cases e:t'=t
     ·subst e;rw [hj1,Int.toNat_natCast] at h2;omega
     ·exact ⟨t',by omega,h2⟩
   ·have hc1:c.getD j 0≠-1:=beq_eq_false_iff_ne.1 hc1
    have hfalse:s.testBit (c.getD j 0).toNat=false:=by
     cases hbt:s.testBit (c.getD j 0).toNat with
     | false=>rfl
     | true=>
      obtain ⟨t',h1,h2⟩:=(hs _).1 hbt
      obtain ⟨j',g1,g2,g3⟩:=at_get (es:=es) (w:=(i:Int)) (t:=t') (by omega)
      rw [g1,Int.toNat_natCast] at h2
      have hne':j'≠j:=fun e=>by
       have hnd:(atL es (i:Int)).Nodup:=filtB_nodup _ _
       have e2:(atL es (i:Int)).getD t' 0=(atL es (i:Int)).getD t 0:=by rw [g1,hj1,e]
       rw [getD_of (by omega),getD_of (by omega)] at e2
       have:=(List.getElem_inj hnd).1 e2
       omega
      exact absurd (show c.getD j 0=c.getD j' 0 by omega) (hc.col j j' hj2 g2 (fun e=>hne' e.symm) ⟨_,hj3,g3⟩ (by omega))
    unfold F128.B8
    refine nilK_mk (asP_mk (ld1_own oP2 rfl (oi.rd (by omega) (by omega) ?_)))
    rw [Int.toNat_natCast]
    refine has_ok hs64 (by omega) (asB_mk (pif_f hfalse ?_))
    unfold F128.B6
    refine nilK_mk (asP_mk (ld1_own oP2 rfl (oi.rd (by omega) (by omega) ?_)))
    rw [Int.toNat_natCast]
    have px:2^(c.getD j 0).toNat<2^64:=Nat.pow_lt_pow_right (by decide) (by omega)
    refine ⟨by omega,?_⟩
    rw [one_shl (by omega) (by omega),bits_or hs64 px]
    unfold F128.B5
    rw [wrap_id (by omega) (by omega)]
    refine ⟨⟨rfl,rfl,rfl,rfl,rfl,rfl,t+1,s|||2^(c.getD j 0).toNat,by omega,by omega,rfl,or_lt hs64 px,fun k=>?_⟩,by show 3-((t:Int)+1).toNat<3-(t:Int).toNat;omega⟩
    rw [Nat.testBit_or,Bool.or_eq_true,hs k,Nat.testBit_two_pow,decide_eq_true_iff]
    constructor
    ·rintro (⟨t',h1,h2⟩|h)
     ·exact ⟨t',by omega,h2⟩
     ·exact ⟨t,by omega,by rw [hj1,Int.toNat_natCast];omega⟩
    ·rintro ⟨t',h1,h2⟩
     by_cases e:t'=t
     ·subst e;rw [hj1,Int.toNat_natCast] at h2;right;omega
     ·exact .inl ⟨t',by omega,h2⟩
  ·unfold F128.B3
   rw [wrap_id (by omega) (by omega)]
   exact ⟨⟨rfl,rfl,l12,i+1,by omega,by omega⟩,by show n.toNat-((i:Int)+1).toNat<n.toNat-(i:Int).toNat;omega⟩
 ·unfold F128.B1
  have hl1:=l1.1
  refine paintG_ok hC hg he hE hEl hEr hcb hub hne hp1 hp2 E.length 0 _ _ done G1 _ (by omega) (by omega) (AHeap.le_trans h0 l1) (by omega) oP1 (oc.le l1) (ou.le l1) hcl hU (hC.st _ _ _ hJ (.le l1)) (by rw [List.drop_zero];exact hN) fun G2 f2 hJ2=>asB_mk ?_
  rw [List.drop_zero] at hJ2 ⊢
  exact k G2 ((Fnd.le l1).trans f2) hJ2
end
end Go.Proofs
namespace Go.Proofs
open Go.Abs

variable {H G:AHeap} {v u f:Value} {l m c D:List Int} {es fs:List (Int × Int)} {K:Value→AHeap→Prop} {n:Int}

theorem noB_le (G:AHeap) (b:Nat):AHeap.le (G.set b none) G:=by
 refine ⟨by simp,fun c o h=>?_⟩
 by_cases e:c=b
 ·subst e
  rw [List.getElem?_set] at h
  simp at h
 ·rwa [List.getElem?_set_ne (fun h=>e h.symm)] at h
theorem le_noB {b:Nat} (h:H.le G) (hb:H.length≤b):H.le (G.set b none):=by
 refine ⟨by simpa using h.1,fun c o ho=>?_⟩
 have:=lt_of_get ho
 rw [List.getElem?_set_ne (by omega)]
 exact h.2 c o ho
theorem noB_get {b c:Nat} {o:AObj} (h:(G.set b none:AHeap)[c]?=some (some o)):c≠b:=fun e=>by
 subst e
 rw [List.getElem?_set] at h
 simp at h
theorem lead_zero {N:Nat} (h:0<N):∃ r,leadL es N=0::r:=by
 obtain ⟨k,rfl⟩:∃ k,N=k+1:=⟨N-1,by omega⟩
 unfold leadL
 rw [List.range_succ_eq_map,List.filter_cons,if_pos (vLeadB_iff.2 fun b hb=>absurd hb (by omega))]
 exact ⟨_,rfl⟩
noncomputable def stN (es:List (Int × Int)) (i:Nat):List Int:=if i=0 then nstTo es 3 else blank es
theorem stN_prp (hg:IsG n es) (i:Nat):PrpC es (stN es i):=by
 unfold stN;split
 ·exact nst_prp hg (Nat.le_refl _)
 ·exact blank_prp
theorem stN_has (hg:IsG n es) (hc:∃ c,IsC es c) {i:Nat} (hi:i<(partL es n.toNat).length):ptL es ((partL es n.toNat).getD i []) (stN es i)≠[]:=by
 obtain ⟨c,hc⟩:=hc
 have n0:=hg.ed.lo
 have hl:i<(leadL es n.toNat).length:=by unfold partL at hi;simpa using hi
 rw [partL_get hl]
 unfold stN
 by_cases h0:i=0
 ·subst h0
  rw [if_pos rfl]
  obtain ⟨r,hr⟩:=lead_zero (es:=es) (show 0<n.toNat by omega)
  have:(leadL es n.toNat)[0]=0:=by simp only [hr,List.getElem_cons_zero]
  rw [this]
  obtain ⟨d,hd⟩:=nst_mem hg hc
  exact fun e=>by rw [e] at hd;cases hd
 ·rw [if_neg h0]
  exact fun e=>by have:=restr_mem hc (v:=(leadL es n.toNat)[i]);rw [e] at this;cases this
theorem stN_all (hg:IsG n es) (h:∀ i,i<(partL es n.toNat).length→ptL es ((partL es n.toNat).getD i []) (stN es i)≠[]):∃ c,IsC es c:=by
 refine parts_isC hg fun v hv=>?_
 obtain ⟨i,hi,rfl⟩:=List.getElem_of_mem hv
 have:=h i (by unfold partL;simpa using hi)
 rw [partL_get hi] at this
 obtain ⟨d,hd⟩:=List.exists_mem_of_ne_nil _ this
 obtain ⟨g1,_,g3⟩:=ptL_sound _ _ (stN_prp hg i) (fun x hx=>partE_rng hx) d hd
 exact ⟨d,g1,g3⟩
theorem any_true {L:List (List Int)}:L.any (fun _=>true)=!L.isEmpty:=by cases L <;> simp
theorem first_ok (h:Edges H v es) (hg:IsG n es) (k:∀ v' G,H.le G→(∀ K:Bool→Prop,(∀ b:Bool,(b=true↔¬ ∃ c,IsC es c)→K b)→isNilK v' K)→K v' G) :
 AC Tryz.prog T0 76 [.agg ⟨[.int .i64 n,v]⟩] H K:=by
 have n0:=hg.ed.lo;have n1:=hg.ed.hi
 have h30:es.length≤30:=by have:=hg.ed.len;omega
 apply F76.ac
 unfold F76.B11
 refine newK_f (all_iv (edges_one' h)) fun H1 l1 n1' o1=>?_
 unfold F76.B10
 refine ld1_own o1 rfl ((h.le l1).len (mkR_int (by omega) (by omega) (by decide) fun H2 l2 n2 o2=>?_))
 refine newK_f rfl fun H3 l3 n3 o3=>pif_t rfl (stK_1 o3 (by simp) rfl fun H4 b4 o4=>?_)
 rw [rep_one] at o2
 have l34:H2.le H4:=b4.le l3 (Nat.le_refl _)
 have l24:H1.le H4:=AHeap.le_trans l2 l34
 have l04:=AHeap.le_trans l1 l24
 have hlt1:=lt_of_get o1
 have hlt2:=lt_of_get o2
 have hl4:=l34.1
 obtain ⟨ob,hob⟩:∃ ob,ob=H1.length:=⟨_,rfl⟩
 obtain ⟨xb,hxb⟩:∃ xb,xb=H2.length:=⟨_,rfl⟩
 rw [← hob] at o2 o4
 rw [← hxb] at o4 ⊢
 simp only [Int.toNat_natCast,List.set_cons_zero] at o4 o2
 unfold F76.B9
 refine ldI_own (o1.le l24) rfl (ld1_own (o1.le l24) rfl (partEdges_ok (h.le l04) hg fun x8 H5 l5 hR=>?_))
 have hpl:=partL_length (es:=es) n.toNat
 have hsn:=sidesN_le es n.toNat
 have hlt4:=lt_of_get o4
 have hl5:=l5.1
 refine hR.len ?_
 have out5:Own H5 ob 2 (LI (List.replicate es.length 0)):=(o2.le l34).le l5
 have x5':=o4.le l5
 have g5:=(o1.le l24).le l5
 have l15:=AHeap.le_trans l24 l5
 have l05:=AHeap.le_trans l1 l15
 unfold F76.L2
 refine ⟨fun x1 x3 x12 x13 x14 G=>H.length=x1∧xb=x3∧x8=x12∧(((partL es n.toNat).length:Nat):Int)=x13∧Fnd (fun b=>b=ob) H5 G∧(∃ o:List Int,Own G ob 2 (LI o)∧o.length=es.length)∧∃ i:Nat,x14=i∧i≤(partL es n.toNat).length∧∀ j,j<i→ptL es ((partL es n.toNat).getD j []) (stN es j)≠[],
  fun _ _ _ _ x14 _=>(partL es n.toNat).length-x14.toNat,⟨rfl,rfl,rfl,rfl,.refl,⟨_,out5,by simp⟩,0,rfl,by omega,fun j hj=>absurd hj (by omega)⟩,?_⟩
 rintro x1 x3 x12 x13 x14 G ⟨rfl,rfl,rfl,rfl,fG,⟨o,oo,hol⟩,i,rfl,hi,hall⟩
 have oxG:=fG.own x5' (by omega)
 have ogG:=fG.own g5 (by omega)
 have hGl:=fG.len
 have hob0:H.length≤ob:=by have:=l1.1;omega
 have l0G:H.le G:=fG.base l05 fun b o hb=>by have:=lt_of_get hb;omega
 have hRG:=hR.move (G:=G) fun b o ha _ ho=>fG.old b o (by omega) ho
 unfold F76.B8
 refine pif_cases (fun hb=>?_) fun hb=>?_
 ·have hlt:i<(partL es n.toNat).length:=by have:=of_decide_eq_true hb;omega
  have hE:(partL es n.toNat).getD i []∈partL es n.toNat:=by rw [getD_of hlt];exact List.getElem_mem hlt
  obtain ⟨E,hEe⟩:∃ E,E=(partL es n.toNat).getD i []:=⟨_,rfl⟩
  rw [← hEe] at hE
  have hEr:∀ x∈E,0≤x∧x<es.length:=fun x hx=>by
   unfold partL at hE
   obtain ⟨w,_,rfl⟩:=List.mem_map.1 hE
   exact partE_rng hx
  have hEl:E.length≤es.length:=by
   unfold partL at hE
   obtain ⟨w,_,rfl⟩:=List.mem_map.1 hE
   exact filtB_length _ _
  unfold F76.B7
  refine hRG.rowA hlt fun y fy hyA=>?_
  rw [← hEe] at fy
  have hyo:y.oneCell'=true:=ints_one fy.ints
  refine newK_f rfl fun G1 g1 m1 p1=>pif_t hyo (stK_1 p1 (by simp) hyo fun G2 q2 p2=>?_)
  simp only [List.set_cons_zero] at p2
  have l2':G.le G2:=q2.le g1 (Nat.le_refl _)
  have hG2l:=l2'.1
  have oo2:=oo.le l2'
  have hlo:=lt_of_get oo
  have hlx:=lt_of_get oxG
  have hlp:=lt_of_get p2
  have ox2:=oxG.le l2'
  have og2:=ogG.le l2'
  have fy2:=fy.le l2'
  unfold F76.B6
  refine ldI_own og2 rfl (ld1_own og2 rfl (ld1_own p2 rfl ?_))
  have hfv:(Value.func (.func 141) ⟨[]⟩ ⟨[.pointer (some ⟨G.length,0,none⟩),.pointer (some ⟨xb,0,none⟩)]⟩).oneCell'=true:=rfl
  -- the heap without the list that is filled
  have le0:H.le (G2.set ob none):=le_noB (AHeap.le_trans l0G l2') hob0
  have y0:Ints (G2.set ob none:AHeap) y E:=(fresh_oth (G:=(G2.set ob none:AHeap)) fy2 fun b o hb ho=>by
   have:=hyA b hb
   rw [List.getElem?_set_ne (by omega)];exact ho).ints
  have hlen0:(G2.set ob none:AHeap).length=G2.length:=by simp
  have call:∀ pb cb ub:Nat,G2.length≤pb→G2.length≤cb→G2.length≤ub→∀ N,Caller es (G2.set ob none) pb cb ub (.func (.func 141) ⟨[]⟩ ⟨[.pointer (some ⟨G.length,0,none⟩),.pointer (some ⟨xb,0,none⟩)]⟩) (fun b=>b=ob) (ob+1) (fun done A=>∃ o:List Int,Own A ob 2 (LI o)∧o.length=es.length) (fun _=>true) N:=by
   intro pb cb ub h1 h2 h3 N
   refine ⟨fun b o hb=>noB_get hb,by omega,by omega,by omega,fun b e=>by omega,fun done A B ⟨o,hA,hAl⟩ t=>⟨o,t.old _ _ (by omega) (by omega) hA,hAl⟩,fun done c' A hA oc' hl' hJ hd K' hK'=>callV_mk ?_⟩
   obtain ⟨o',oo',hol'⟩:=hJ
   have pA:=hA.2 G.length _ ((List.getElem?_set_ne (show ob≠G.length by omega)).trans p2)
   have xA:=hA.2 xb _ ((List.getElem?_set_ne (show ob≠xb by omega)).trans ox2)
   have yA:=y0.le hA
   apply F141.ac
   unfold F141.B8 F141.B7
   refine asP_mk (ld1_own pA rfl (yA.len ?_))
   unfold F141.L2
   refine ⟨fun z0 z2 z7 z8 z9 B=>.slice (some ⟨cb,0,none⟩) es.length (es.length+1)=z0∧.pointer (some ⟨xb,0,none⟩)=z2∧y=z7∧((E.length:Nat):Int)=z8∧Fnd (fun b=>b=ob) A B∧(∃ o:List Int,Own B ob 2 (LI o)∧o.length=es.length)∧∃ t:Nat,z9=t∧t≤E.length,fun _ _ _ _ z9 _=>E.length-z9.toNat,
    ⟨rfl,rfl,rfl,rfl,.refl,⟨o',oo',hol'⟩,0,rfl,by omega⟩,?_⟩
   rintro z0 z2 z7 z8 z9 B ⟨rfl,rfl,rfl,rfl,fB,⟨ob',hob',hobl⟩,t,rfl,ht⟩
   have hAB:AHeap.le (G2.set ob none) B:=fB.base hA fun b o hb=>noB_get hb
   unfold F141.B6
   refine pif_cases (fun hb=>?_) fun hb=>?_
   ·have htl:t<E.length:=by have:=of_decide_eq_true hb;omega
    have he:=hEr _ (List.getElem_mem htl)
    rw [← getD_of (d:=0) htl] at he
    obtain ⟨e,hee⟩:∃ e:Nat,E.getD t 0=e:=⟨(E.getD t 0).toNat,by omega⟩
    unfold F141.B5
    refine (y0.le hAB).rd (by omega) (by omega) ?_
    rw [Int.toNat_natCast,hee]
    have xB:=fB.own xA (by omega)
    have cB:=fB.own oc' (by omega)
    unfold F141.B4
    refine asP_mk (ld1_own xB rfl (own_idx (by omega) (by omega) (ldI_own cB (n:=c'.getD e 0) (by rw [Int.toNat_natCast];simp [show e<c'.length by omega]) (own_idx (by omega) (by omega) (stK_1 hob' (by simp;omega) rfl fun B2 bt bo=>?_)))))
    rw [Int.toNat_natCast,← List.map_set] at bo
    unfold F141.B3
    rw [wrap_id (by omega) (by omega)]
    refine ⟨⟨rfl,rfl,rfl,rfl,fB.trans ⟨Nat.le_of_eq bt.len.symm,fun b o hb ho=>by rw [bt.same b hb];exact ho⟩,⟨_,bo,by simpa using hobl⟩,t+1,by omega,by omega⟩,by simp;omega⟩
   ·unfold F141.B1
    exact hK' B fB ⟨ob',hob',hobl⟩
  -- the end of a round
  have fin:∀ A:AHeap,Fnd (fun b=>b=ob) G2 A→(∃ o:List Int,Own A ob 2 (LI o)∧o.length=es.length)→F76.B5 K (fun z1 z3 z12 z13 z14 G'=>(H.length=z1∧xb=z3∧x8=z12∧(((partL es n.toNat).length:Nat):Int)=z13∧Fnd (fun b=>b=ob) H5 G'∧(∃ o:List Int,Own G' ob 2 (LI o)∧o.length=es.length)∧∃ i:Nat,z14=i∧i≤(partL es n.toNat).length∧∀ j,j<i→ptL es ((partL es n.toNat).getD j []) (stN es j)≠[])∧(partL es n.toNat).length-z14.toNat<(partL es n.toNat).length-(i:Int).toNat) H.length xb ((ptL es E (stN es i)).any fun _=>true) x8 ((partL es n.toNat).length:Nat) (i:Nat) A:=by
   intro A fA hA
   have fA':=(fG.trans (.le l2')).trans fA
   have l0A:H.le A:=fA'.base l05 fun b o hb=>by have:=lt_of_get hb;omega
   unfold F76.B5
   rw [any_true]
   refine pif_cases (fun hn=>?_) fun hn=>?_
   ·have hnil:ptL es E (stN es i)=[]:=by
     cases hp:ptL es E (stN es i) with
     | nil=>rfl
     | cons a L=>rw [hp] at hn;simp at hn
    unfold F76.B4
    refine k _ A l0A fun K' hK'=>hK' _ ?_
    show (true=true↔_)
    refine ⟨fun _ hc=>?_,fun _=>rfl⟩
    have:=stN_has hg hc hlt
    rw [← hEe] at this
    exact this hnil
   ·have hne:ptL es E (stN es i)≠[]:=fun e=>by rw [e] at hn;simp at hn
    unfold F76.B3
    rw [wrap_id (by omega) (by omega)]
    refine ⟨⟨rfl,rfl,rfl,rfl,fA',hA,i+1,by omega,by omega,fun j hj=>?_⟩,by show (partL es n.toNat).length-((i:Int)+1).toNat<(partL es n.toNat).length-(i:Int).toNat;omega⟩
    by_cases e:j=i
    ·subst e;rw [← hEe];exact hne
    ·exact hall j (by omega)
  by_cases hi0:i=0
  ·have hbt:(((i:Nat):Int)==0)=true:=by rw [hi0];rfl
   rw [hbt]
   have hst:stN es i=nstTo es 3:=by unfold stN;rw [if_pos hi0]
   refine painterN_ok hg (h.le (AHeap.le_trans l0G l2')) hyo hfv fun pb cb ub tP us G3 g3 r0 r1 r2 q3 q4 q5 oP oc ou hU=>?_
   have hg3:=g3.1
   refine startN_ok (done:=[]) (call pb cb ub r0 r1 r2 _) hg (h.le le0) y0 (by omega) hEr (by omega) (by omega) q3 q4 q5 (AHeap.le_trans (noB_le _ _) g3) (by omega) (nst_prp hg (Nat.le_refl _)) hU oP oc ou ⟨o,oo2.le g3,hol⟩ (by simp;exact Nat.le_refl _) fun G4 f4 hJ4=>asB_mk ?_
   have:=fin G4 ((Fnd.le g3).trans f4) hJ4
   rw [hst] at this
   exact this
  ·have hbt:(((i:Nat):Int)==0)=false:=by rw [beq_eq_false_iff_ne];omega
   rw [hbt]
   have hst:stN es i=blank es:=by unfold stN;rw [if_neg hi0]
   refine painterG_ok hg (h.le (AHeap.le_trans l0G l2')) hyo hfv fun pb cb ub tP G3 g3 r0 r1 r2 q3 q4 q5 oP oc ou=>?_
   have hg3:=g3.1
   refine startG_ok (done:=[]) (call pb cb ub r0 r1 r2 _) hg (h.le le0) y0 (by omega) hEr (by omega) (by omega) q3 q4 q5 (AHeap.le_trans (noB_le _ _) g3) (by omega) oP oc ou ⟨o,oo2.le g3,hol⟩ (by simp;exact Nat.le_refl _) fun G4 f4 hJ4=>asB_mk ?_
   have:=fin G4 ((Fnd.le g3).trans f4) hJ4
   rw [hst] at this
   exact this
 ·have hie:i=(partL es n.toNat).length:=by have:=of_decide_eq_false hb;omega
  subst hie
  unfold F76.B1
  refine ld1_own oxG rfl (k _ G l0G fun K' hK'=>hK' _ ?_)
  show (false=true↔_)
  exact ⟨fun h=>absurd h (by simp),fun h=>absurd (stN_all hg hall) h⟩
noncomputable def hasVal (n:Int) (es:List (Int × Int)):Bool:=@decide (IsG n es∧∃ c,IsC es c) (Classical.propDecidable _)
theorem implHas_ok (h:Edges H v es) (hl:es.length≤1048576) (k:∀ G,H.le G→K (.tuple ⟨[.bool (hasVal n es),.int .i64 (if IsG n es then 0 else 1)]⟩) G) :
 AC Tryz.prog T0 19 [.agg ⟨[.int .i64 n,v]⟩] H K:=by
 apply F19.ac
 unfold F19.B5
 refine newK_f (all_iv (edges_one' h)) fun H1 l1 n1' o1=>?_
 unfold F19.B4
 refine ldI_own o1 rfl (ld1_own o1 rfl (graphCode_ok (h.le l1) hl fun H2 l2=>asI_mk ?_))
 have l12:=AHeap.le_trans l1 l2
 have o2:=o1.le l2
 simp only [if_true]
 unfold F19.B3
 by_cases hg:IsG n es
 ·rw [if_pos hg] at k ⊢
  refine pif_f rfl ?_
  unfold F19.B1
  refine ldI_own o2 rfl (ld1_own o2 rfl (first_ok (h.le l12) hg fun w G lG hw=>hw _ fun b hb=>?_))
  have e:hasVal n es=!b:=by
   unfold hasVal
   cases b with
   | true=>
    have:=hb.1 rfl
    simp only [Bool.not_true,decide_eq_false_iff_not]
    exact fun h=>this h.2
   | false=>
    have:∃ c,IsC es c:=Classical.byContradiction fun hn=>by have:=hb.2 hn;cases this
    simp only [Bool.not_false,decide_eq_true_eq]
    exact ⟨hg,this⟩
  rw [← e]
  exact k G (AHeap.le_trans l12 lG)
 ·have e:hasVal n es=false:=by
   unfold hasVal
   rw [decide_eq_false_iff_not]
   exact fun h=>hg h.1
  rw [if_neg hg] at k ⊢
  rw [e] at k
  refine pif_t rfl ?_
  unfold F19.B2
  exact k H2 l12
end Go.Proofs
namespace Go.Proofs
open Go.Abs

variable {H G:AHeap} {v u w:Value} {es fs:List (Int × Int)} {K:Value→AHeap→Prop} {n:Int}

theorem has_iff' (hg:IsG n es):hasVal n es=true↔∃ c,IsC es c:=by
 unfold hasVal
 exact ⟨fun h=>(@of_decide_eq_true _ (Classical.propDecidable _) h).2,fun h=>@decide_eq_true _ (Classical.propDecidable _) ⟨hg,h⟩⟩
theorem rs_has (h:smCode n es 12=0):(rsN n es==0)=hasVal n es:=by
 have hg:=smCode_zero h
 rw [Bool.eq_iff_iff,has_iff' hg,beq_iff_eq,rsN_zero h]
end Go.Proofs
namespace Go.Proofs
open Go.Abs

variable {H G:AHeap} {v u f:Value} {l m c D:List Int} {es fs:List (Int × Int)} {K:Value→AHeap→Prop} {n:Int}

theorem likeInts_ok (h:Ints H v l) (g:Ints H u l) (hl:l.length≤1000000000) (k:K (.bool true) H):AC Tryz.prog T0 24 [v,u] H K:=by
 apply F24.ac
 unfold F24.B10 F24.B9
 refine h.len (g.len (pif_f (by simp) ?_))
 unfold F24.B7 F24.L2
 refine ⟨fun x0 x1 x5 G=>v=x0∧u=x1∧H=G∧∃ i:Nat,x5=i∧i≤l.length,fun _ _ x5 _=>l.length-x5.toNat,⟨rfl,rfl,rfl,0,rfl,by omega⟩,?_⟩
 rintro x0 x1 x5 G ⟨rfl,rfl,rfl,i,rfl,hi⟩
 unfold F24.B6
 refine h.len (pif_cases (fun hb=>?_) fun hb=>?_)
 ·have hlt:i<l.length:=by have:=of_decide_eq_true hb;omega
  unfold F24.B5
  refine h.rd (by omega) (by omega) (g.rd (by omega) (by omega) (pif_f (by simp) ?_))
  unfold F24.B3
  rw [wrap_id (by omega) (by omega)]
  exact ⟨⟨rfl,rfl,rfl,i+1,by omega,by omega⟩,by simp;omega⟩
 ·unfold F24.B1
  exact k
theorem big_ok (h:Byts H v l) (k:K (.bool (decide ((l.length:Int)>4096))) H):AC Tryz.prog T0 7 [v] H K:=by
 apply F7.ac
 unfold F7.B2 F7.B1
 exact h.len k
end Go.Proofs
namespace Go.Proofs
open Go.Abs

variable {H G G' Hb:AHeap} {v u w x8 x15 v2:Value} {es fs es2:List (Int × Int)} {l c:List Int} {K:Value→AHeap→Prop} {n n2 k d:Int} {x3 x12:Nat}

abbrev QC32:Value→AHeap→Prop:=fun v _=>v=.bool true
def sw (a x:Int):Int:=if x=a then 0 else if x=0 then a else x
theorem isC_swap {a:Int} (hc:IsC es c) (ha:0≤a∧a≤2):IsC es (c.map (sw a)):=by
 have hl:=hc.len
 have hm:∀ j,j<es.length→(c.map (sw a)).getD j 0=sw a (c.getD j 0):=fun j hj=>by
  rw [getD_of (by simp;omega),List.getElem_map,getD_of (by omega)]
 refine ⟨by simpa using hl,fun x hx=>?_,fun j hj i hij hs e=>?_⟩
 ·obtain ⟨y,hy,rfl⟩:=List.mem_map.1 hx
  have:=hc.rng y hy
  unfold sw
  split
  ·omega
  ·split <;> omega
 ·have h:=hc.col j hj i hij hs
  rw [hm j hj,hm i (by omega)] at e
  unfold sw at e
  split at e <;> split at e <;> (try split at e) <;> (try split at e) <;> omega
theorem isC_zero (hc:IsC es c) (h0:0<es.length):∃ c',IsC es c'∧c'.getD 0 0=0:=by
 have hl:=hc.len
 have hr:=hc.rng (c.getD 0 0) (by rw [getD_of (by omega)];exact List.getElem_mem _)
 refine ⟨_,isC_swap hc hr,?_⟩
 rw [getD_of (by simp;omega),List.getElem_map,← getD_of (d:=0) (by omega)]
 unfold sw
 rw [if_pos rfl]
theorem cir_some (hk:1≤k) (h:IsCi es k d l es.length) (h0:l.getD 0 0=0):cirO es k d es.length []≠none:=
 cirO_comp hk es.length [] l (by simp) (by simpa using h) (fun _=>by simpa using h0)
theorem co_cases (h:coC n es k d=0∨coC n es k d=4):IsG n es∧cirK k d=true∧(coC n es k d=0↔cirO es k d es.length []≠none):=by
 unfold coC at h ⊢
 by_cases hg:IsG n es
 ·simp only [if_pos hg] at h ⊢
  by_cases hk:cirK k d=true
  ·simp only [if_pos hk] at h ⊢
   by_cases hn:n>10
   ·simp only [if_pos hn] at h;omega
   ·simp only [if_neg hn]
    refine ⟨hg,hk,?_⟩
    by_cases hO:cirO es k d es.length []=none
    ·rw [if_pos hO]
     exact ⟨fun h=>absurd h (by decide),fun h=>absurd hO h⟩
    ·rw [if_neg hO]
     exact ⟨fun _=>hO,fun _=>rfl⟩
  ·simp only [if_neg hk] at h;omega
 ·simp only [if_neg hg] at h;omega
theorem has_three (hg:IsG n es):hasVal n es=true↔cirO es 3 1 es.length []≠none:=by
 rw [has_iff' hg]
 have h0:0<es.length:=by have:=hg.ed.len;have:=hg.ed.lo;omega
 constructor
 ·rintro ⟨c,hc⟩
  obtain ⟨c',h1,h2⟩:=isC_zero hc h0
  exact cir_some (by omega) (isC_ci.2 h1) h2
 ·intro h
  obtain ⟨l,hl⟩:=Option.ne_none_iff_exists'.1 h
  have hs:=(cirO_sound (es:=es) (k:=3) (d:=1) (by omega) es.length [] ⟨rfl,fun j hj=>absurd hj (by simp),fun e he=>absurd he (by simp)⟩ l hl).1
  rw [List.length_nil,Nat.zero_add] at hs
  exact ⟨l,isC_ci.1 hs⟩
theorem has_wide (hg:IsG n es) (h:hasVal n es=true) (hk:k≥3*d) (hd:1≤d):cirO es k d es.length []≠none:=by
 have h0:0<es.length:=by have:=hg.ed.len;have:=hg.ed.lo;omega
 obtain ⟨c,hc⟩:=(has_iff' hg).1 h
 obtain ⟨c',h1,h2⟩:=isC_zero hc h0
 refine cir_some (by omega) (isC_wide h1 (by omega) hd) ?_
 have hl:=h1.len
 rw [getD_of (by simp;omega),List.getElem_map,← getD_of (d:=0) (by omega),h2]
 omega
structure DfS (x3:Nat) (x8:Value) (n:Int) (es:List (Int × Int)) (v:Value) (G:AHeap):Prop where
 T:Tab G
 o:Own G x3 31 [.int .i64 n,v]
 E:Edges G v es
 l:es.length≤2000
 W:Ints G x8 (wsL n es)
theorem DfS.le (h:DfS x3 x8 n es v G) (hl:G.le G'):DfS x3 x8 n es v G':=⟨h.T.le hl,h.o.le hl,h.E.le hl,h.l,h.W.le hl⟩
theorem df_5 (h:DfS x3 x8 n es v G):F4.B5 QC32 x3 (rsN n es) (smCode n es 12) x8 (smCode n es 12) G:=by
 have hl:=h.l
 unfold F4.B5
 refine pif_cases (fun hc=>?_) fun hc=>?_
 ·have hne:smCode n es 12≠0:=by simpa using hc
  unfold F4.B4
  refine pif_t ?_ ?_
  ·unfold rsN wsL;rw [if_neg hne];rfl
  ·show Value.bool _=.bool true
   rw [beq_self_eq_true]
 have h0:smCode n es 12=0:=by simpa using hc
 have hg:=smCode_zero h0
 unfold F4.B3
 refine ldI_own h.o rfl (ld1_own h.o rfl (implHas_ok h.E (by omega) fun G1 l1=>tup2_mk (asB_mk (asI_mk ?_))))
 have h:=h.le l1
 unfold F4.B2
 refine ldI_own h.o rfl (ld1_own h.o rfl (implOdd_ok h.T h.E (by omega) fun G2 l2=>tup2_mk (asI_mk (asI_mk ?_))))
 have h:=h.le l2
 rw [h0,if_pos hg]
 unfold F4.B1
 refine pif_t rfl (h.W.len (pif_t ?_ (pif_t rfl (pif_t ?_ (pif_cases (fun _=>rfl) fun hb=>?_)))))
 ·unfold rsN;exact beq_self_eq_true _
 ·rw [rs_has h0,beq_self_eq_true]
 ·have hb:bmCode n es=0:=by simpa using hb
  show Value.bool _=.bool true
  rw [decide_eq_true (rs_le h0 hb)]
theorem df_9 (h:DfS x3 x8 n es v G) (o:Own G x12 31 [.int .i64 n2,v2]) (hE:Edges G v2 es2) (hl:es2.length≤2000) (hd:0≤d∧d≤2010) :
 F4.B9 QC32 x3 (rsN n es) (smCode n es 12) x8 (smCode n es 12) x12 k d (coC n2 es2 k d) G:=by
 have eight:(coC n2 es2 k d=0∨coC n2 es2 k d=4)→F4.B8 QC32 x3 (rsN n es) (smCode n es 12) x8 (smCode n es 12) x12 k d (coC n2 es2 k d) G:=fun hc=>by
  obtain ⟨hg,hk,hiff⟩:=co_cases hc
  obtain ⟨hk1,hd1,hd2⟩:=cirK_iff.1 hk
  unfold F4.B8
  refine ldI_own o rfl (ld1_own o rfl (implHas_ok hE (by omega) fun G1 l1=>tup2_mk (asB_mk (asI_mk ?_))))
  have h:=h.le l1
  rw [if_pos hg]
  unfold F4.B7
  rw [wrap_id (by omega) (by omega)]
  have tl:pif (hasVal n2 es2) (pif (decide (k≥3*d)) (pif (coC n2 es2 k d != 0) (F4.B6 QC32 G1) (F4.B5 QC32 x3 (rsN n es) (smCode n es 12) x8 (smCode n es 12) G1)) (F4.B5 QC32 x3 (rsN n es) (smCode n es 12) x8 (smCode n es 12) G1)) (F4.B5 QC32 x3 (rsN n es) (smCode n es 12) x8 (smCode n es 12) G1):=by
   refine pif_cases (fun hh=>pif_cases (fun hk3=>pif_f ?_ (df_5 h)) fun _=>df_5 h) fun _=>df_5 h
   rw [hiff.2 (has_wide hg hh (of_decide_eq_true hk3) hd1)];rfl
  refine pif_f rfl (pif_cases (fun h3=>pif_cases (fun h1=>pif_f ?_ tl) fun _=>tl) fun _=>tl)
  have h3:k=3:=beq_iff_eq.1 h3
  have h1:d=1:=beq_iff_eq.1 h1
  subst h3 h1
  have:hasVal n2 es2=(coC n2 es2 3 1==0):=by rw [Bool.eq_iff_iff,beq_iff_eq,hiff,has_three hg]
  rw [this,beq_self_eq_true];rfl
 unfold F4.B9
 exact pif_cases (fun hc=>eight (.inl (beq_iff_eq.1 hc))) fun _=>pif_cases (fun hc=>eight (.inr (beq_iff_eq.1 hc))) fun _=>df_5 h
theorem df_13 (h:DfS x3 x8 n es v G) (o:Own G x12 31 [.int .i64 n2,v2]) (hE:Edges G v2 es2) (hl:es2.length≤2000) (hd:0≤d∧d≤2010) (h15:Ints G x15 (coL n2 es2 k d)) :
 F4.B13 QC32 x3 (rsN n es) (smCode n es 12) x8 (smCode n es 12) x12 k d x15 (coC n2 es2 k d) G:=by
 unfold F4.B13
 refine pif_cases (fun hc=>?_) fun _=>df_9 h o hE hl hd
 have h0:coC n2 es2 k d=0:=beq_iff_eq.1 hc
 obtain ⟨hcl,hci,hz,hpos⟩:=coL_len h0
 obtain ⟨hg,hk,_⟩:=co_zero' h0
 have hic:icCode n2 es2 k d (coL n2 es2 k d)=0:=by unfold icCode;rw [if_pos hg,hk,decide_eq_true hcl];rfl
 have hiv:icVal n2 es2 k d (coL n2 es2 k d)=true:=icVal_of hic ⟨fun _=>hci,fun _=>rfl⟩
 unfold F4.B12
 refine ldI_own o rfl (ld1_own o rfl (implIsCir_ok hE (by omega) h15 fun G1 l1=>tup2_mk (asB_mk (asI_mk ?_))))
 rw [hic,hiv]
 unfold F4.B11
 refine pif_f rfl (pif_f rfl ((h15.le l1).rd (by omega) (by omega) (pif_f ?_ (df_9 (h.le l1) (o.le l1) (hE.le l1) hl hd))))
 rw [show (0:Int).toNat=0 from rfl,hz];rfl
theorem fnDefects_law (H:AHeap) (hT:Tab H) (vs:List Value) (hv:AVs T0 H [22] vs):AC Tryz.prog T0 4 vs H (fun v _=>v=.bool true):=by
 obtain ⟨v0,vs,rfl,a0,rfl⟩:=hv
 obtain ⟨l,hB,hlen⟩:=av_bytes a0
 apply F4.ac
 unfold F4.B44 F4.B43
 refine big_ok hB (asB_mk (pif_cases (fun _=>by unfold F4.B42;rfl) fun hs=>?_))
 have hl:l.length≤4096:=by have:=of_decide_eq_false hs;omega
 unfold F4.B41
 refine drawRes_ok hB hl fun v n es G lG hS c1=>agg2_mk (asI_mk (newK_f rfl fun H2 l2 n2' o2=>stK_f (new:=[.int .i64 n,v]) o2 (by simp) (mem_iv (sl_one hS)) rfl fun H3 b3 o3=>?_))
 have l3:G.le H3:=b3.le l2 (Nat.le_refl _)
 have l03:=AHeap.le_trans lG l3
 have hE:=(sl_edges hS).le l3
 unfold F4.B40
 refine ldI_own o3 rfl (ld1_own o3 rfl (implRes_ok hE (by omega) fun H4 l4=>tup2_mk (asI_mk (asI_mk ?_))))
 have o4:=o3.le l4;have hE4:=hE.le l4;have l04:=AHeap.le_trans l03 l4
 unfold F4.B39
 refine ldI_own o4 rfl (ld1_own o4 rfl (specRes_ok hE4 (by omega) fun H5 l5=>tup2_mk (asI_mk (asI_mk ?_))))
 have o5:=o4.le l5;have hE5:=hE4.le l5;have l05:=AHeap.le_trans l04 l5
 unfold F4.B38
 refine pif_f (by simp) (pif_f (by simp) ?_)
 unfold F4.B36
 refine ldI_own o5 rfl (ld1_own o5 rfl (implWeak_ok hE5 (by omega) fun x8 H6 l6 f6=>tup2_mk (asI_mk ?_)))
 have o6:=o5.le l6;have hE6:=hE5.le l6;have l06:=AHeap.le_trans l05 l6
 unfold F4.B35
 refine ldI_own o6 rfl (ld1_own o6 rfl (specWeak_ok hE6 (by omega) fun x10 H7 l7 f7=>tup2_mk (asI_mk ?_)))
 have l07:=AHeap.le_trans l06 l7
 have S7:DfS G.length x8 n es v H7:=⟨hT.le l07,o6.le l7,hE6.le l7,c1,f6.ints.le l7⟩
 have hwl:=wsL_small (es:=es) (n:=n)
 unfold F4.B34
 refine pif_f (by simp) (likeInts_ok S7.W f7.ints (by omega) (asB_mk (pif_f rfl ?_)))
 unfold F4.B32
 refine drawCir_ok (hB.le l07) hl fun v2 n2 es2 k d G2 lG2 hS2 c2 k0 k1 d0 d1=>tup3_mk (agg2_mk (asI_mk (asI_mk (asI_mk (newK_f rfl fun H8 l8 n8 o8=>stK_f (new:=[.int .i64 n2,v2]) o8 (by simp) (mem_iv (sl_one hS2)) rfl fun H9 b9 o9=>?_)))))
 have l9:G2.le H9:=b9.le l8 (Nat.le_refl _)
 have S9:=S7.le (AHeap.le_trans lG2 l9)
 have l09:=AHeap.le_trans l07 (AHeap.le_trans lG2 l9)
 have hE9:=(sl_edges hS2).le l9
 unfold F4.B31
 refine ldI_own o9 rfl (ld1_own o9 rfl (implCir_ok hE9 (by omega) fun x15 H10 l10 f10=>tup2_mk (asI_mk ?_)))
 have o10:=o9.le l10;have hE10:=hE9.le l10
 unfold F4.B30
 refine ldI_own o10 rfl (ld1_own o10 rfl (specCir_ok hE10 (by omega) fun x17 H11 l11 f11=>tup2_mk (asI_mk ?_)))
 have o11:=o10.le l11;have hE11:=hE10.le l11;have f10:=f10.ints.le l11
 have S11:=S9.le (AHeap.le_trans l10 l11)
 have l011:=AHeap.le_trans l09 (AHeap.le_trans l10 l11)
 have hcl:(coL n2 es2 k d).length≤1000000000:=by
  by_cases h0:coC n2 es2 k d=0
  ·have:=(coL_len h0).1;omega
  ·unfold coL;rw [if_neg h0];simp
 unfold F4.B29
 refine pif_f (by simp) (likeInts_ok f10 f11.ints hcl (asB_mk (pif_f rfl ?_)))
 unfold F4.B27
 refine drawIsCir_ok (hB.le l011) hl fun v3 n3 es3 k3 d3 w3 la3 G3 lG3 hS3 c3 fw3 cl3=>tup4_mk (agg2_mk (asI_mk (asI_mk (asI_mk (newK_f rfl fun H12 l12 n12 o12=>stK_f (new:=[.int .i64 n3,v3]) o12 (by simp) (mem_iv (sl_one hS3)) rfl fun H13 b13 o13=>?_)))))
 have l13:G3.le H13:=b13.le l12 (Nat.le_refl _)
 have l1113:=AHeap.le_trans lG3 l13
 have S13:=S11.le l1113
 have o11':=o11.le l1113;have hE11':=hE11.le l1113;have f10':=f10.le l1113
 have l013:=AHeap.le_trans l011 l1113
 have hE13:=(sl_edges hS3).le l13
 have hw13:=fw3.ints.le l13
 unfold F4.B26
 refine ldI_own o13 rfl (ld1_own o13 rfl (implIsCir_ok hE13 (by omega) hw13 fun H14 l14=>tup2_mk (asB_mk (asI_mk ?_))))
 have o14:=o13.le l14;have hE14:=hE13.le l14;have hw14:=hw13.le l14
 unfold F4.B25
 refine ldI_own o14 rfl (ld1_own o14 rfl (specIsCir_ok hE14 (by omega) hw14 fun H15 l15=>tup2_mk (asB_mk (asI_mk ?_))))
 have l1315:=AHeap.le_trans l14 l15
 have S15:=S13.le l1315
 have o11'':=o11'.le l1315;have hE11'':=hE11'.le l1315;have f10'':=f10'.le l1315
 have l015:=AHeap.le_trans l013 l1315
 unfold F4.B24
 refine pif_f (by simp) (pif_f (by simp) ?_)
 unfold F4.B22
 refine drawClose_ok (hB.le l015) hl fun v4 n4 es4 e f G4 lG4 hS4 c4 e0 e1 f0 f1=>tup3_mk (agg2_mk (asI_mk (asI_mk (asI_mk (newK_f rfl fun H16 l16 n16 o16=>stK_f (new:=[.int .i64 n4,v4]) o16 (by simp) (mem_iv (sl_one hS4)) rfl fun H17 b17 o17=>?_)))))
 have l17:G4.le H17:=b17.le l16 (Nat.le_refl _)
 have hE17:=(sl_edges hS4).le l17
 unfold F4.B21
 refine ldI_own o17 rfl (ld1_own o17 rfl (implClose_ok hE17 (by omega) fun H18 l18=>tup2_mk (asB_mk (asI_mk ?_))))
 have o18:=o17.le l18;have hE18:=hE17.le l18
 unfold F4.B20
 refine ldI_own o18 rfl (ld1_own o18 rfl (specClose_ok hE18 (by omega) fun H19 l19=>tup2_mk (asB_mk (asI_mk ?_))))
 have o19:=o18.le l19;have hE19:=hE18.le l19
 have l1519:=AHeap.le_trans lG4 (AHeap.le_trans l17 (AHeap.le_trans l18 l19))
 have fin:∀ G',H19.le G'→F4.B13 QC32 G.length (rsN n es) (smCode n es 12) x8 (smCode n es 12) G2.length k d x15 (coC n2 es2 k d) G':=fun G' hG'=>by
  have l0:=AHeap.le_trans l1519 hG'
  exact df_13 (S15.le l0) (o11''.le l0) (hE11''.le l0) c2 ⟨d0,d1⟩ (f10''.le l0)
 unfold F4.B19
 refine pif_f (by simp) (pif_f (by simp) ?_)
 unfold F4.B17
 refine pif_cases (fun hc=>?_) fun _=>fin H19 (AHeap.le_refl _)
 have h0:acCode n4 es4 e f=0:=beq_iff_eq.1 hc
 unfold F4.B16
 refine ldI_own o19 rfl (ld1_own o19 rfl (implClose_ok hE19 (by omega) fun H20 l20=>tup2_mk (asB_mk (asI_mk ?_))))
 have hsy:=ac_symm (n:=n4) (es:=es4) (e:=f) (f:=e)
 rw [hsy.1,hsy.2,h0]
 unfold F4.B15
 exact pif_f rfl (pif_f (by simp) (fin H20 l20))
end Go.Proofs
