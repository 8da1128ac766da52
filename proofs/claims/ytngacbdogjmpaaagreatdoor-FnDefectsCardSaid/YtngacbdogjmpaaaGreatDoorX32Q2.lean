/- Contracts and plain mathematics for a law, merged. -/
import Derived.StringKeys
import Derived.Test.YtngacbdogjmpaaaGreatDoorX32Q1
set_option linter.unusedVariables false
set_option linter.unusedSimpArgs false
set_option maxRecDepth 100000
namespace Go.Proofs
open Go.Abs

variable {H G:AHeap} {v u f w:Value} {es fs S:List (Int × Int)} {K:Value→AHeap→Prop}

section
variable {α:Type} {d:α} {c:α→α→Int} {S:List α} {j:Nat} {x:α}
theorem insG_sorted (hc:Cmp c) (hS:S.Pairwise (LeC c)) (hj:j≤S.length) (h1:∀ q,j≤q→q<S.length→c x (S.getD q d)<0) (h2:j=0∨¬ c x (S.getD (j-1) d)<0):(S.take j++([x]++S.drop j)).Pairwise (LeC c):=by
 have hS':=hS
 rw [← List.take_append_drop j S,List.pairwise_append] at hS'
 obtain ⟨p1,p2,p3⟩:=hS'
 rw [List.pairwise_append]
 refine ⟨p1,?_,fun a ha b hb=>?_⟩
 ·rw [List.singleton_append,List.pairwise_cons]
  refine ⟨fun b hb=>?_,p2⟩
  obtain ⟨i,hi,rfl⟩:=List.getElem_of_mem hb
  rw [List.length_drop] at hi
  have:=h1 (j+i) (by omega) (by omega)
  rw [getD_of (by omega)] at this
  rw [List.getElem_drop];exact hc.lt this
 ·rw [List.singleton_append,List.mem_cons] at hb
  rcases hb with rfl|hb
  ·obtain ⟨i,hi,rfl⟩:=List.getElem_of_mem ha
   rw [List.length_take] at hi
   rw [List.getElem_take]
   rcases h2 with h2|h2
   ·omega
   ·rw [getD_of (by omega)] at h2
    by_cases e:i=j-1
    ·subst e;exact h2
    ·exact hc.tr _ _ _ ((List.pairwise_iff_getElem.1 hS) i (j-1) (by omega) (by omega) (by omega)) h2
  ·exact p3 a ha b hb
theorem insG_perm:(S.take j++([x]++S.drop j)).Perm (S++[x]):=by
 have h1:(S.take j++([x]++S.drop j)).Perm (S.take j++(S.drop j++[x])):=List.Perm.append_left _ List.perm_append_comm
 have e:S.take j++(S.drop j++[x])=S++[x]:=by rw [← List.append_assoc,List.take_append_drop]
 rw [← e];exact h1
end
theorem cmpE_ord:Cmp cmpE:=⟨fun x y z h1 h2=>by
 rw [cmpE_neg] at *;unfold ltE at *;omega,fun x y h=>by rw [cmpE_neg] at *;unfold ltE at *;omega⟩
def nrmE (e:Int × Int):Int × Int:=(if e.2<e.1 then e.2 else e.1,if e.2>e.1 then e.2 else e.1)
noncomputable def srtE (l:List (Int × Int)):List (Int × Int):=l.mergeSort fun a b=>decide (LeC cmpE a b)
theorem srtE_perm (l:List (Int × Int)):(srtE l).Perm l:=List.mergeSort_perm _ _
theorem srtE_eq {l:List (Int × Int)} (h1:S.Pairwise (LeC cmpE)) (h2:S.Perm l):S=srtE l:=by
 refine sorted_same (le:=LeC cmpE) (fun a b h1 h2=>?_) h1 ?_ (h2.trans (srtE_perm l).symm)
 ·have e1:¬ ltE b a:=fun h=>h1 ((cmpE_neg _ _).2 h)
  have e2:¬ ltE a b:=fun h=>h2 ((cmpE_neg _ _).2 h)
  unfold ltE at e1 e2
  exact Prod.ext (by omega) (by omega)
 ·have:=List.pairwise_mergeSort (le:=fun a b=>decide (LeC cmpE a b)) (fun a b c h1 h2=>by
   rw [decide_eq_true_iff] at *;exact cmpE_ord.tr _ _ _ h1 h2) (fun a b=>by
   by_cases h:cmpE a b<0
   ·rw [Bool.or_eq_true];left;exact decide_eq_true (cmpE_ord.lt h)
   ·rw [Bool.or_eq_true];right;exact decide_eq_true h) l
  exact this.imp fun h=>of_decide_eq_true h
theorem srtE_length (l:List (Int × Int)):(srtE l).length=l.length:=(srtE_perm l).length_eq
theorem fresh_neE {m0:Nat} (h:Fresh m0 H v 28 2 (LE es)) (hl:0<es.length):∃ b,m0≤b∧v=.slice (some ⟨b,0,none⟩) es.length (es.length+1)∧Own H b 28 (LE es):=by
 rcases h with ⟨h0,_⟩|⟨b,n,hb,rfl,h3,h4⟩
 ·have:=congrArg List.length h0;rw [LE_length,List.length_nil] at this;omega
 ·rw [LE_length] at h4
  have hn:n=es.length:=by omega
  subst hn
  exact ⟨b,hb,rfl,h3⟩
theorem own_idx2 {b n:Nat} {x:Int} {K:Nat→Nat→Prop} (h0:0≤x) (h1:x<n) (k:K b (x.toNat*2)):idxK (.slice (some ⟨b,0,none⟩) n (n+1)) x 2 K:=⟨h0,h1,by simpa using k⟩
theorem own_edge {b n j:Nat} {K:Int→Int→Prop} (o:Own H b 28 (LE S)) (hn:S.length=n) (hj:j<n) (k:K (S.getD j (0,0)).1 (S.getD j (0,0)).2):idxK (.slice (some ⟨b,0,none⟩) n (n+1)) (j:Int) 2 (fun b o=>ldI .i64 H b o fun p=>ldI .i64 H b (o+1) fun q=>K p q):=by
 obtain ⟨g1,g2⟩:=LE_get S j (S.getD j (0,0)) (by rw [getD_of (by omega)];exact List.getElem?_eq_getElem (by omega))
 refine own_idx2 (by omega) (by omega) ?_
 rw [Int.toNat_natCast]
 exact ldI_own o g1 (ldI_own o g2 k)
theorem set_edge {b n j:Nat} {x:Int × Int} {K:AHeap→Prop} (o:Own H b 28 (LE S)) (hn:S.length=n) (hj:j<n) (k:∀ G,But b H G→Own G b 28 (LE (S.set j x))→K G) :
 idxK (.slice (some ⟨b,0,none⟩) n (n+1)) (j:Int) 2 (fun b o=>stK H b o [.int .i64 x.1,.int .i64 x.2] K):=by
 have LL:=LE_length S
 refine own_idx2 (by omega) (by omega) (stK_f (new:=LE (S.set j x)) o (by rw [LL,Int.toNat_natCast];show j*2+2≤_;omega) (by simp [Value.oneCell']) (by rw [Int.toNat_natCast];exact LE_set S x (by omega)) k)
theorem l01Sort_ok (h:Edges H v es) (hl:es.length≤1048576) (k:∀ v' G,H.le G→Fresh H.length G v' 28 2 (LE (srtE (es.map nrmE)))→K v' G):AC Tryz.prog T0 117 [v] H K:=by
 apply F117.ac
 unfold F117.B14 F117.B13
 refine newK_f rfl fun H1 l1 n1 o1=>?_
 unfold F117.B12 F117.L2
 refine ⟨fun x0 x3 x4 G=>v=x0∧H.le G∧∃ (i bo:Nat) (S:List (Int × Int)),x4=i∧i≤es.length∧H.length≤bo∧x3=.slice (some ⟨bo,0,none⟩) S.length (S.length+1)∧Own G bo 28 (LE S)∧S.Pairwise (LeC cmpE)∧S.Perm ((es.take i).map nrmE),
  fun _ _ x4 _=>es.length-x4.toNat,⟨rfl,l1,0,H.length,[],rfl,by omega,Nat.le_refl _,rfl,o1,List.Pairwise.nil,by simp⟩,?_⟩
 rintro x0 x3 x4 G ⟨rfl,lG,i,bo,S,rfl,hi,hbo,rfl,oS,sS,pS⟩
 have hSl:S.length=i:=by have:=pS.length_eq;rw [List.length_map,List.length_take] at this;omega
 unfold F117.B11
 refine (h.le lG).len (pif_cases (fun hb=>?_) fun hb=>?_)
 rotate_left
 ·have hil:i=es.length:=by have:=of_decide_eq_false hb;omega
  subst hil
  rw [List.take_length] at pS
  unfold F117.B1
  refine k _ G lG (.inr ⟨bo,S.length,hbo,rfl,?_,?_⟩)
  ·rw [← srtE_eq sS pS];exact oS
  ·rw [← srtE_eq sS pS,LE_length]
 have hil:i<es.length:=by have:=of_decide_eq_true hb;omega
 obtain ⟨eb,eo,hk,c1,c2⟩:=(h.le lG).idx (show (0:Int)≤i by omega) (by omega)
 simp only [Int.toNat_natCast] at c1 c2
 obtain ⟨e,he⟩:∃ e,e=nrmE (es.getD i (0,0)):=⟨_,rfl⟩
 have hbl:=oS.lt
 unfold F117.B10
 refine hk _ (ldI_mk c1 (hk _ (ldI_mk c2 (hk _ (ldI_mk c1 (hk _ (ldI_mk c2 (lenK_of (newK_f rfl fun G1 l1' n1' o1'=>stK_f (new:=[.int .i64 e.1,.int .i64 e.2]) o1' (by simp) (by simp [Value.oneCell']) (by rw [he];rfl) fun G2 b2 o2=>?_)))))))))
 have l2:G.le G2:=b2.le l1' (Nat.le_refl _)
 have lG2:=AHeap.le_trans lG l2
 have oS2:=oS.le l2
 unfold F117.B9
 refine ldI_own o2 rfl (ldI_own o2 rfl ?_)
 refine Sl.pushN (m:=H.length) E_edge (by decide) (Fresh.sl (.inr ⟨bo,S.length,hbo,rfl,oS2,LE_length S⟩)) lG2.1 (n:=1) (ys:=[.int .i64 e.1,.int .i64 e.2]) rfl rfl (by rw [LE_length];simp;omega) (by simp) fun v' G3 k3 ot3 nb3 f3=>?_
 have f3:Fresh H.length G3 v' 28 2 (LE (S++[e])):=by rw [LE_append];exact f3
 obtain ⟨b3,hb3,rfl,o3⟩:=fresh_neE f3 (by simp)
 have hn3:G2.length≤b3:=nb3 b3 rfl
 have lG3:H.le G3:=k3.le lG2 (Nat.le_refl _)
 have ox3:Own G3 G.length 28 [.int .i64 e.1,.int .i64 e.2]:=ot3 _ _ (fun hv=>by cases hv;omega) o2
 have hlen3:(S++[e]).length=S.length+1:=by simp
 rw [hlen3]
 unfold F117.L5
 refine ⟨fun x0 x3 x4 x5 x6 G'=>v=x0∧.slice (some ⟨b3,0,none⟩) (S.length+1) (S.length+1+1)=x3∧(i:Int)=x4∧G.length=x5∧H.le G'∧Own G' G.length 28 [.int .i64 e.1,.int .i64 e.2]∧∃ (j:Nat) (g:Int × Int),x6=j∧j≤S.length∧Own G' b3 28 (LE (S.take j++([g]++S.drop j)))∧∀ q,j≤q→q<S.length→cmpE e (S.getD q (0,0))<0,
  fun _ _ _ _ x6 _=>x6.toNat,⟨rfl,rfl,rfl,rfl,lG3,ox3,S.length,e,rfl,Nat.le_refl _,by rw [List.take_length,List.drop_length,List.append_nil];exact o3,fun q h1 h2=>by omega⟩,?_⟩
 clear ox3 o3 f3 ot3 nb3 lG3 k3
 rintro x0 x3 x4 x5 x6 G' ⟨rfl,rfl,rfl,rfl,lG',oe,j,g,rfl,hj,oj,hgt⟩
 have hbG:G.length<b3:=by have:=b2.len;omega
 obtain ⟨T,hT⟩:∃ T,T=S.take j++([g]++S.drop j):=⟨_,rfl⟩
 have hTl:T.length=S.length+1:=by rw [hT];simp [Nat.min_eq_left hj];omega
 have hTj:∀ x,T.set j x=S.take j++([x]++S.drop j):=fun x=>by
  rw [hT,List.set_append_right _ _ (by simp;omega)]
  simp [Nat.min_eq_left hj]
 rw [← hT] at oj
 have next:(j=0∨¬ cmpE e (S.getD (j-1) (0,0))<0)→∀ G',H.le G'→Own G' b3 28 (LE T)→Own G' G.length 28 [.int .i64 e.1,.int .i64 e.2]→F117.B4 K (fun z0 z3 z4 G''=>(v=z0∧H.le G''∧∃ (i bo:Nat) (S:List (Int × Int)),z4=i∧i≤es.length∧H.length≤bo∧z3=.slice (some ⟨bo,0,none⟩) S.length (S.length+1)∧Own G'' bo 28 (LE S)∧S.Pairwise (LeC cmpE)∧S.Perm ((es.take i).map nrmE))∧es.length-z4.toNat<es.length-(i:Int).toNat) v (.slice (some ⟨b3,0,none⟩) (S.length+1) (S.length+1+1)) i G.length j G':=by
  intro hst G' lG' oj oe
  unfold F117.B4
  refine ldI_own oe rfl (ldI_own oe rfl (set_edge (x:=e) oj hTl (by omega) fun G5 b5 o5=>?_))
  rw [hTj] at o5
  unfold F117.B3
  rw [wrap_id (by omega) (by omega)]
  have hlen:(S.take j++([e]++S.drop j)).length=S.length+1:=by simp [Nat.min_eq_left hj];omega
  refine ⟨⟨rfl,b5.le lG' hb3,i+1,b3,_,by omega,by omega,hb3,by rw [hlen],o5,insG_sorted (d:=(0,0)) cmpE_ord sS hj hgt hst,insG_perm.trans ?_⟩,by omega⟩
  rw [List.take_succ_eq_append_getElem hil,List.map_append,List.map_singleton,he,getD_of hil]
  exact pS.append_right _
 unfold F117.B8
 refine pif_cases (fun hb=>?_) fun hb=>next (.inl (by have:=of_decide_eq_false hb;omega)) G' lG' oj oe
 have hj0:0<j:=by have:=of_decide_eq_true hb;omega
 have hT1:T.getD (j-1) (0,0)=S.getD (j-1) (0,0):=by
  rw [hT]
  simp [List.getD,List.getElem?_append_left (show j-1<(S.take j).length by simp;omega),List.getElem?_take_of_lt (show j-1<j by omega)]
 have w1:IntKind.i64.wrap ((j:Int)-1)=((j-1:Nat):Int):=wr (by omega) (by omega)
 rw [w1]
 refine ldI_own oe rfl (ldI_own oe rfl (own_edge (j:=j-1) oj hTl (by omega) ?_))
 rw [hT1]
 refine l01Before_ok (a:=e) (b:=S.getD (j-1) (0,0)) fun G5 l5=>asB_mk (pif_cases (fun hq=>?_) fun hq=>?_)
 ·have hlt:=(cmpE_neg _ _).2 (of_decide_eq_true hq)
  have oj5:=oj.le l5
  unfold F117.B7
  rw [w1]
  refine own_edge (j:=j-1) oj5 hTl (by omega) ?_
  rw [hT1]
  refine set_edge (x:=S.getD (j-1) (0,0)) oj5 hTl (by omega) fun G6 b6 o6=>?_
  rw [hTj] at o6
  unfold F117.B6
  rw [w1]
  refine ⟨⟨rfl,rfl,rfl,rfl,b6.le (AHeap.le_trans lG' l5) hb3,b6.own (oe.le l5) (by omega),j-1,S.getD (j-1) (0,0),rfl,by omega,?_,fun q h1 h2=>?_⟩,?_⟩
  ·have e1:S.take (j-1)++([S.getD (j-1) (0,0)]++S.drop (j-1))=S.take j++([S.getD (j-1) (0,0)]++S.drop j):=by
    obtain ⟨j',rfl⟩:∃ j',j=j'+1:=⟨j-1,by omega⟩
    rw [Nat.add_sub_cancel,getD_of (show j'<S.length by omega),List.drop_eq_getElem_cons (show j'<S.length by omega),List.take_succ_eq_append_getElem (show j'<S.length by omega),List.append_assoc]
    rfl
   rw [e1];exact o6
  ·by_cases e2:q=j-1
   ·subst e2;exact hlt
   ·exact hgt q (by omega) h2
  ·show ((j-1:Nat):Int).toNat<((j:Nat):Int).toNat
   omega
 ·exact next (.inr fun hc=>of_decide_eq_false hq ((cmpE_neg _ _).1 hc)) G5 (AHeap.le_trans lG' l5) (oj.le l5) (oe.le l5)
theorem fresh_one {m0:Nat} (h:Fresh m0 H v 28 2 (LE es)):v.oneCell'=true:=edges_one' h.edges
theorem l01Made_ok {n:Int} (h:Edges H v es) (hl:es.length≤1048576) (k:∀ v' G,H.le G→Fresh H.length G v' 28 2 (LE (srtE (es.map nrmE)))→K (.agg ⟨[.int .i64 n,v']⟩) G):AC Tryz.prog T0 60 [.int .i64 n,v] H K:=by
 apply F60.ac
 unfold F60.B2
 refine newK_f rfl fun H1 l1 n1 o1=>?_
 unfold F60.B1
 refine l01Sort_ok (h.le l1) hl fun v' G l2 f2=>pif_t (fresh_one f2) (stK_f (new:=[.int .i64 n,v']) (o1.le l2) (by simp) (mem_iv (fresh_one f2)) rfl fun G3 b3 o3=>ldI_own o3 rfl (ld1_own o3 rfl ?_))
 have hl1:=l1.1
 exact k v' G3 (b3.le (AHeap.le_trans l1 l2) (Nat.le_refl _)) ((f2.but b3 (by omega)).less hl1)
end Go.Proofs
namespace Go.Proofs
open Go.Abs

variable {H G:AHeap} {v u f:Value} {l m c:List Int} {es fs:List (Int × Int)} {K:Value→AHeap→Prop} {A A':Nat→Prop} {B B':Nat} {ls ms:List (List Int)}

end Go.Proofs
namespace Go.Proofs
open Go.Abs

variable {H G:AHeap} {v u f:Value} {l m c:List Int} {es fs:List (Int × Int)} {K:Value→AHeap→Prop} {A A':Nat→Prop} {B B':Nat} {ls ms:List (List Int)}

end Go.Proofs
namespace Go.Proofs
open Go.Abs

variable {H G:AHeap} {v u f w:Value} {es fs S:List (Int × Int)} {l:List Int} {K:Value→AHeap→Prop}

theorem push_edge {m0:Nat} {x:Int × Int} (hF:Fresh m0 H v 28 2 (LE es)) (hm:m0≤H.length) (hs:es.length<1000000)
 (k:∀ v' G,Keep m0 H G→Oth v H G→(∀ b,bk v'=some b→H.length≤b)→Fresh m0 G v' 28 2 (LE (es++[x]))→K v' G) :
 newK H [.int .i64 x.1,.int .i64 x.2] 28 (fun b1 H2=>apK T0 28 H2 v (.slice (some ⟨b1,0,none⟩) 1 (1+1)) K):=by
 refine hF.sl.pushN E_edge (by decide) hm (n:=1) (ys:=[.int .i64 x.1,.int .i64 x.2]) rfl rfl (by rw [LE_length];simp;omega) (by simp) fun v' G k1 ot nb f=>k v' G k1 ot nb ?_
 rw [LE_append];exact f
theorem edges_cells (h:Edges H v es):cellsAt H v 2 es.length (LE es):=by
 rcases h with ⟨rfl,rfl⟩|⟨a,c,rfl,h⟩
 ·exact ⟨rfl,none,0,rfl,.inl rfl⟩
 ·refine ⟨LE_length es,some a,c,rfl,?_⟩
  rcases h with rfl|⟨h1,h2⟩
  ·exact .inl rfl
  ·refine .inr ⟨a.block,a.off,by cases a;simp at h1;subst h1;rfl,fun i x hx=>?_⟩
   have hi:=lt_of_get hx
   rw [LE_length] at hi
   obtain ⟨g1,g2⟩:=h2 (i/2) (es.getD (i/2) (0,0)) (by rw [getD_of (by omega)];exact List.getElem?_eq_getElem (by omega))
   obtain ⟨q1,q2⟩:=LE_get es (i/2) (es.getD (i/2) (0,0)) (by rw [getD_of (by omega)];exact List.getElem?_eq_getElem (by omega))
   rcases (by omega:i=i/2*2∨i=i/2*2+1) with e|e
   ·rw [e,q1] at hx
    rw [e];cases hx;exact g1
   ·rw [e,q2] at hx
    rw [e];cases hx;exact g2
theorem app_edges {m0:Nat} (hs:Sl m0 H v 28 2 (LE es)) (hm:m0≤H.length) (h:Edges H u fs) (h0:0<fs.length) (hl:es.length+fs.length≤1000000) (k:∀ v' G,Keep m0 H G→Oth v H G→Fresh m0 G v' 28 2 (LE (es++fs))→K v' G):apK T0 28 H v u K:=by
 refine hs.app E_edge (by decide) hm (edges_cells h) (by rw [LE_length,LE_length];omega) (fun e=>?_) fun v' G k1 ot nb f=>k v' G k1 ot (by rw [LE_append];exact f)
 have:=congrArg List.length e;rw [LE_length,List.length_nil] at this;omega
end Go.Proofs
namespace Go.Proofs
open Go.Abs

variable {H G:AHeap} {v u f w:Value} {es fs S:List (Int × Int)} {l:List Int} {K:Value→AHeap→Prop}

def k4A:List (Int × Int):=[(0,1),(0,2),(0,3),(1,2),(1,3),(2,3)]
end Go.Proofs
namespace Go.Proofs
open Go.Abs

variable {H G Hb:AHeap} {v u f w:Value} {l m:List Int} {es:List (Int × Int)} {K:Value→AHeap→Prop} {bs:Nat} {n:Int}

def EdR (n:Int) (es:List (Int × Int)):Prop:=∀ e∈es,0≤e.1∧e.1<n∧0≤e.2∧e.2<n
structure Gd (n:Int) (es:List (Int × Int)):Prop where
 pos:0<es.length
 len:es.length≤1000
 rng:EdR n es
theorem EdR.made (h:EdR n es):EdR n (srtE (es.map nrmE)):=fun e he=>by
 obtain ⟨a,ha,rfl⟩:=List.mem_map.1 ((srtE_perm _).mem_iff.1 he)
 have:=h a ha
 unfold nrmE
 simp only
 split <;> split <;> omega
theorem Gd.made (h:Gd n es):Gd n (srtE (es.map nrmE)):=⟨by rw [srtE_length,List.length_map];exact h.pos,by rw [srtE_length,List.length_map];exact h.len,h.rng.made⟩
theorem EdR.snoc (h:EdR n es) {a b:Int} (ha:0≤a∧a<n) (hb:0≤b∧b<n):EdR n (es++[(a,b)]):=fun e he=>by
 rcases List.mem_append.1 he with he|he
 ·exact h e he
 ·rw [List.mem_singleton.1 he];exact ⟨ha.1,ha.2,hb.1,hb.2⟩
theorem l01DrawOf_ok (hs:Src Hb bs H) (h2:2≤n) (hn:n≤100) (he:n%2=0) (k:∀ v' es G,Kb bs H G→Src Hb bs G→Fresh H.length G v' 28 2 (LE es)→Gd n es→K (.agg ⟨[.int .i64 n,v']⟩) G) :
 AC Tryz.prog T0 185 [.pointer (some ⟨bs,0,none⟩),.int .i64 n] H K:=by
 have hbs:=hs.lt
 have nilR:EdR n []:=fun e he=>absurd he (by simp)
 apply F185.ac
 unfold F185.B24
 refine newK_f rfl fun H1 l1 n1 o1=>?_
 unfold F185.B23 F185.L10
 refine ⟨fun x0 x1 x4 x5 G=>.pointer (some ⟨bs,0,none⟩)=x0∧n=x1∧H.length=x4∧Kb bs H G∧Src Hb bs G∧Own G H.length 31 [.int .i64 0,.slice none 0 0]∧∃ i:Nat,x5=i∧i≤20,fun _ _ _ x5 _=>20-x5.toNat,⟨rfl,rfl,rfl,.of_le l1,hs.le l1,o1,0,rfl,by omega⟩,?_⟩
 rintro x0 x1 x4 x5 G ⟨rfl,rfl,rfl,kb,s,ob,i,rfl,hi⟩
 have hHG:=kb.len
 have fin:∀ v' es G',Kb bs H G'→Src Hb bs G'→Own G' H.length 31 [.int .i64 0,.slice none 0 0]→Fresh H.length G' v' 28 2 (LE es)→Gd n es→(∀ b,bk v'=some b→b≠H.length)→stK G' H.length 0 [.int .i64 n,v'] (fun H7=>ldI .i64 H7 H.length 0 (fun v8=>ld1 H7 H.length 1 (fun v9=>K (.agg ⟨[.int .i64 v8,v9]⟩) H7))):=by
  intro v' es G' kb' s' ob' f' g' hne
  refine stK_f (new:=[.int .i64 n,v']) ob' (by simp) (mem_iv (fresh_one f')) rfl fun G5 b5 o5=>ldI_own o5 rfl (ld1_own o5 rfl ?_)
  have hsb:Src Hb bs G5:=by
   obtain ⟨h1,h2,cv,l,a,x,h3,h4,h5,h6,h7⟩:=s'
   have hlt:=h1.1
   exact ⟨b5.le h1 (by omega),h2,cv,l,a,x,h3,h4,b5.own h5 (by omega),h6,h7⟩
  refine k v' es G5 ⟨by rw [b5.len];exact kb'.len,fun q o hq ho=>?_⟩ hsb (fresh_oth f' fun b o hb ho=>by rw [b5.same b (hne b hb)];exact ho) g'
  have:=lt_of_get ho
  rw [b5.same q (by omega)];exact kb'.old q o hq ho
 have made:∀ v' es G',Kb bs H G'→Src Hb bs G'→Own G' H.length 31 [.int .i64 0,.slice none 0 0]→Edges G' v' es→Gd n es→AC Tryz.prog T0 60 [.int .i64 n,v'] G' (fun v1 H2=>agg2 v1 (fun v3 v4=>asI .i64 v3 (fun v5=>stK H2 H.length 0 [.int .i64 v5,v4] (fun H7=>ldI .i64 H7 H.length 0 (fun v8=>ld1 H7 H.length 1 (fun v9=>K (.agg ⟨[.int .i64 v8,v9]⟩) H7)))))):=by
  intro v' es G' kb' s' ob' h' g'
  have hlt:=ob'.lt
  refine l01Made_ok h' (by have:=g'.len;omega) fun v2 G2 l2 f2=>agg2_mk (asI_mk ?_)
  exact fin v2 _ G2 (kb'.trans (.of_le l2)) (s'.le l2) (ob'.le l2) (f2.less kb'.len) g'.made fun b hb=>by have:=(f2.bk_lt hb).1;omega
 have hd2:IntKind.i64.wrap (Int.tdiv n 2)=n/2:=by rw [Int.tdiv_eq_ediv_of_nonneg (by omega),wrap_id (by omega) (by omega)]
 unfold F185.B22
 refine pif_cases (fun hb=>?_) fun hb=>?_
 rotate_left
 ·unfold F185.B9
  refine newK_f rfl fun G1 g1 m1 p1=>?_
  have hlt:=ob.lt
  unfold F185.B8 F185.L2
  refine ⟨fun x1 x4 x12 x13 G'=>n=x1∧H.length=x4∧G.le G'∧∃ (j:Nat) (es:List (Int × Int)),x13=j∧(j:Int)≤n∧Fresh G.length G' x12 28 2 (LE es)∧EdR n es∧j≤es.length∧es.length≤2*j,fun _ _ _ x13 _=>(n-x13).toNat,⟨rfl,rfl,g1,0,[],rfl,by omega,.inr ⟨_,0,Nat.le_refl _,rfl,p1,rfl⟩,nilR,by simp,by simp⟩,?_⟩
  rintro x1 x4 x12 x13 G' ⟨rfl,rfl,lG,j,es,rfl,hj,hF,hE,hl1,hl2⟩
  have next:∀ v3 G4 es',G.le G4→Fresh G.length G4 v3 28 2 (LE es')→EdR n es'→j+1≤es'.length→es'.length≤2*(j+1)→(j:Int)<n→F185.B3 K (fun y1 y4 y12 y13 G'=>(n=y1∧H.length=y4∧G.le G'∧∃ (j:Nat) (es:List (Int × Int)),y13=j∧(j:Int)≤n∧Fresh G.length G' y12 28 2 (LE es)∧EdR n es∧j≤es.length∧es.length≤2*j)∧(n-y13).toNat<(n-(j:Int)).toNat) n H.length v3 j G4:=by
   intro v3 G4 es' l4 f4 e4 h3 h4 h5
   unfold F185.B3
   rw [wrap_id (by omega) (by omega)]
   exact ⟨⟨rfl,rfl,l4,j+1,es',by omega,by omega,f4,e4,h3,h4⟩,by omega⟩
  unfold F185.B7
  refine pif_cases (fun hc=>?_) fun hc=>?_
  ·have hlt:=of_decide_eq_true hc
   unfold F185.B6
   rw [wrap_id (by omega) (by omega)]
   have t0:0≤Int.tmod ((j:Int)+1) n:=Int.tmod_nonneg _ (by omega)
   have t1:Int.tmod ((j:Int)+1) n<n:=Int.tmod_lt_of_pos _ (by omega)
   have hE1:=hE.snoc (a:=j) (b:=Int.tmod ((j:Int)+1) n) ⟨by omega,hlt⟩ ⟨t0,t1⟩
   refine pif_t (by simp;omega) (push_edge (x:=((j:Int),Int.tmod ((j:Int)+1) n)) hF lG.1 (by omega) fun v3 G4 k4 _ _ f4=>?_)
   have l4:=k4.le lG (Nat.le_refl _)
   unfold F185.B5
   rw [hd2]
   refine pif_cases (fun hq=>?_) fun hq=>next v3 G4 _ l4 f4 hE1 (by simp;omega) (by simp;omega) hlt
   have hq:=of_decide_eq_true hq
   unfold F185.B4
   rw [hd2,wrap_id (by omega) (by omega)]
   refine push_edge (x:=((j:Int),(j:Int)+n/2)) f4 l4.1 (by simp;omega) fun v5 G6 k6 _ _ f6=>?_
   exact next v5 G6 _ (k6.le l4 (Nat.le_refl _)) f6 (hE1.snoc ⟨by omega,by omega⟩ ⟨by omega,by omega⟩) (by simp;omega) (by simp;omega) hlt
  ·have hge:=of_decide_eq_false hc
   unfold F185.B1
   exact made x12 es G' (kb.trans (.of_le lG)) (s.le lG) (ob.le lG) hF.edges ⟨by omega,by omega,hE⟩
 ·have hi20:=of_decide_eq_true hb
  unfold F185.B21
  rw [wrap_id (by omega) (by omega)]
  refine l01DrawOrder_ok s (by omega) fun v1 D G1 k1 s1 f1 hDl hDr=>newK_f rfl fun G2 l2 n2 o2=>?_
  have ob1:Own G1 H.length 31 [.int .i64 0,.slice none 0 0]:=k1.old _ _ (by omega) ob
  have kb2:=(kb.trans k1).trans (.of_le l2)
  have s2:=s1.le l2
  have hDi:∀ G',G1.le G'→Ints G' v1 D:=fun G' l=>f1.ints.le l
  unfold F185.B20 F185.L14
  refine ⟨fun x0 x1 x4 x5 x6 x7 x8 x9 G'=>.pointer (some ⟨bs,0,none⟩)=x0∧n=x1∧H.length=x4∧(i:Int)=x5∧v1=x6∧G1.le G'∧∃ (j:Nat) (es:List (Int × Int)),x9=2*(j:Int)∧2*(j:Int)≤3*n∧Fresh G1.length G' x7 28 2 (LE es)∧EdR n es∧es.length=j,fun _ _ _ _ _ _ _ x9 _=>(3*n-x9).toNat,⟨rfl,rfl,rfl,rfl,rfl,l2,0,[],rfl,by omega,.inr ⟨_,0,Nat.le_refl _,rfl,o2,rfl⟩,nilR,rfl⟩,?_⟩
  rintro x0 x1 x4 x5 x6 x7 x8 x9 G' ⟨rfl,rfl,rfl,rfl,rfl,lG,j,es,rfl,hj,hF,hE,hel⟩
  have hDG:=hDi G' lG
  unfold F185.B19
  refine hDG.len (pif_cases (fun hc=>?_) fun hc=>?_)
  ·have hlt:2*(j:Int)<3*n:=by have:=of_decide_eq_true hc;omega
   have r1:=hDr (D.getD (2*(j:Int)).toNat 0) (by rw [getD_of (by omega)];exact List.getElem_mem _)
   have r2:=hDr (D.getD (2*(j:Int)+1).toNat 0) (by rw [getD_of (by omega)];exact List.getElem_mem _)
   have q1:IntKind.i64.wrap (Int.tdiv (D.getD (2*(j:Int)).toNat 0) 3)=D.getD (2*(j:Int)).toNat 0/3:=by rw [Int.tdiv_eq_ediv_of_nonneg (by omega),wrap_id (by omega) (by omega)]
   have q2:IntKind.i64.wrap (Int.tdiv (D.getD (2*(j:Int)+1).toNat 0) 3)=D.getD (2*(j:Int)+1).toNat 0/3:=by rw [Int.tdiv_eq_ediv_of_nonneg (by omega),wrap_id (by omega) (by omega)]
   unfold F185.B18
   rw [wrap_id (by omega) (by omega)]
   refine hDG.rd (by omega) (by omega) (hDG.rd (by omega) (by omega) ?_)
   rw [q1,q2]
   unfold F185.B17
   refine push_edge (x:=(D.getD (2*(j:Int)).toNat 0/3,D.getD (2*(j:Int)+1).toNat 0/3)) hF lG.1 (by omega) fun v3 G4 k4 _ _ f4=>?_
   have l4:=k4.le lG (Nat.le_refl _)
   unfold F185.B16
   refine pif_cases (fun _=>?_) fun _=>?_
   all_goals
    unfold F185.B15
    rw [wrap_id (by omega) (by omega)]
    exact ⟨⟨rfl,rfl,rfl,rfl,rfl,l4,j+1,_,by omega,by omega,f4,hE.snoc ⟨by omega,by omega⟩ ⟨by omega,by omega⟩,by simp [hel]⟩,by show (3*n-(2*(j:Int)+2)).toNat<(3*n-2*(j:Int)).toNat;omega⟩
  ·have hge:=of_decide_eq_false hc
   unfold F185.B13
   refine pif_cases (fun hq=>?_) fun hq=>?_
   ·unfold F185.B12
    exact made x7 es G' ((kb.trans k1).trans (.of_le lG)) (s1.le lG) (ob1.le lG) hF.edges ⟨by omega,by omega,hE⟩
   ·unfold F185.B11
    rw [wrap_id (by omega) (by omega)]
    exact ⟨⟨rfl,rfl,rfl,(kb.trans k1).trans (.of_le lG),s1.le lG,ob1.le lG,i+1,by omega,by omega⟩,by show 20-((i:Int)+1).toNat<20-(i:Int).toNat;omega⟩
end Go.Proofs
namespace Go.Proofs
open Go.Abs

variable {H G Hb:AHeap} {v u f w:Value} {l m D:List Int} {es:List (Int × Int)} {K:Value→AHeap→Prop} {bs:Nat} {n:Int}

def renE (D:List Int) (es:List (Int × Int)):List (Int × Int):=es.map fun e=>(D.getD e.1.toNat 0,D.getD e.2.toNat 0)
theorem renE_rng (hD:D.length=n.toNat) (hr:∀ x∈D,0≤x∧x<n) (h:EdR n es):EdR n (renE D es):=fun e he=>by
 obtain ⟨a,ha,rfl⟩:=List.mem_map.1 he
 have h1:=h a ha
 have m1:D.getD a.1.toNat 0∈D:=by rw [getD_of (by omega)];exact List.getElem_mem _
 have m2:D.getD a.2.toNat 0∈D:=by rw [getD_of (by omega)];exact List.getElem_mem _
 have h2:=hr _ m1
 have h3:=hr _ m2
 exact ⟨h2.1,h2.2,h3.1,h3.2⟩
theorem l01Renamed_ok (h:Edges H v es) (hg:Gd n es) (hi:Ints H u D) (hD:D.length=n.toNat) (hr:∀ x∈D,0≤x∧x<n) (k:∀ v' es' G,H.le G→Fresh H.length G v' 28 2 (LE es')→Gd n es'→K (.agg ⟨[.int .i64 n,v']⟩) G) :
 AC Tryz.prog T0 183 [.agg ⟨[.int .i64 n,v]⟩,u] H K:=by
 have hlen:=hg.len
 apply F183.ac
 unfold F183.B8
 refine newK_f (all_iv (edges_one' h)) fun H1 l1 n1 o1=>newK_f rfl fun H2 l2 n2 o2=>?_
 have l02:=AHeap.le_trans l1 l2
 have o12:=o1.le l2
 unfold F183.B7
 refine newK_f rfl fun H3 l3 n3 o3=>?_
 unfold F183.B6 F183.L2
 refine ⟨fun x1 x2 x4 x5 x6 G=>u=x1∧H.length=x2∧H1.length=x4∧H2.le G∧∃ i:Nat,x6=i∧i≤es.length∧Fresh H2.length G x5 28 2 (LE (renE D (es.take i))),fun _ _ _ _ x6 _=>es.length-x6.toNat,⟨rfl,rfl,rfl,l3,0,rfl,by omega,.inr ⟨_,0,Nat.le_refl _,rfl,o3,rfl⟩⟩,?_⟩
 rintro x1 x2 x4 x5 x6 G ⟨rfl,rfl,rfl,lG,i,rfl,hil,hF⟩
 have l0G:=AHeap.le_trans l02 lG
 unfold F183.B5
 refine ld1_own (o12.le lG) rfl ((h.le l0G).len (pif_cases (fun hb=>?_) fun hb=>?_))
 ·have hlt:i<es.length:=by have:=of_decide_eq_true hb;omega
  have hm:es.getD i (0,0)∈es:=by rw [getD_of hlt];exact List.getElem_mem _
  have hrg:=hg.rng _ hm
  obtain ⟨bb,oo,hk,c1,c2⟩:=(h.le l0G).idx (show (0:Int)≤i by omega) (by omega)
  simp only [Int.toNat_natCast] at c1 c2
  unfold F183.B4
  refine ld1_own (o12.le lG) rfl (hk _ (ldI_mk c1 ((hi.le l0G).rd (by omega) (by omega) (ld1_own (o12.le lG) rfl (hk _ (ldI_mk c2 ((hi.le l0G).rd (by omega) (by omega) ?_)))))))
  refine push_edge (x:=(D.getD (es.getD i (0,0)).1.toNat 0,D.getD (es.getD i (0,0)).2.toNat 0)) hF lG.1 (by simp [renE];omega) fun v3 G4 k4 _ _ f4=>?_
  unfold F183.B3
  rw [wrap_id (by omega) (by omega)]
  refine ⟨⟨rfl,rfl,rfl,k4.le lG (Nat.le_refl _),i+1,by omega,by omega,?_⟩,by simp;omega⟩
  have e:renE D (es.take (i+1))=renE D (es.take i)++[(D.getD (es.getD i (0,0)).1.toNat 0,D.getD (es.getD i (0,0)).2.toNat 0)]:=by
   unfold renE
   rw [List.take_succ_eq_append_getElem hlt,List.map_append,← getD_of (d:=(0,0)) hlt];rfl
  rw [e];exact f4
 ·have hie:i=es.length:=by have:=of_decide_eq_false hb;omega
  subst hie
  rw [List.take_length] at hF
  have hG':Gd n (renE D es):=⟨by unfold renE;rw [List.length_map];exact hg.pos,by unfold renE;rw [List.length_map];exact hg.len,renE_rng hD hr hg.rng⟩
  unfold F183.B1
  refine ldI_own (o12.le lG) rfl (l01Made_ok hF.edges (by have:=hG'.len;omega) fun v2 G2 g2 f2=>agg2_mk (asI_mk ?_))
  have l2G:=AHeap.le_trans lG g2
  have hb1:=o2.lt
  refine stK_f (new:=[.int .i64 n,v2]) (o2.le l2G) (by simp) (mem_iv (fresh_one f2)) rfl fun G5 b5 o5=>ldI_own o5 rfl (ld1_own o5 rfl ?_)
  have hGl:=lG.1
  have h0l:=l1.1
  exact k v2 _ G5 (b5.le (AHeap.le_trans l02 l2G) h0l) (((f2.but b5 (by omega)).less (by omega))) hG'.made
end Go.Proofs
namespace Go.Proofs
open Go.Abs

variable {H G Hb:AHeap} {v u f w:Value} {l m D:List Int} {es:List (Int × Int)} {K:Value→AHeap→Prop} {bs:Nat} {n:Int}

theorem l01Cycle_ok {m0 c:Nat} (hF:Fresh m0 H v 28 2 (LE es)) (hm:m0≤H.length) (oc:Own H c 2 (LI D)) (hc:bk v≠some c) (hr:EdR n es) (hD:∀ x∈D,0≤x∧x<n) (hl:es.length+D.length≤1000)
 (k:∀ v' es' G,Keep m0 H G→Fresh m0 G v' 28 2 (LE es')→EdR n es'→es'.length=es.length+D.length→(∀ b,bk v'=some b→bk v=some b∨H.length≤b)→K v' G) :
 AC Tryz.prog T0 209 [v,.slice (some ⟨c,0,none⟩) D.length (D.length+1)] H K:=by
 have hcl:=oc.lt
 apply F209.ac
 unfold F209.B7 F209.B6 F209.L2
 refine ⟨fun x0 x1 x5 G=>.slice (some ⟨c,0,none⟩) D.length (D.length+1)=x1∧Keep m0 H G∧Own G c 2 (LI D)∧(∀ b,bk x0=some b→bk v=some b∨H.length≤b)∧∃ (i:Nat) (es':List (Int × Int)),x5=i∧i≤D.length∧Fresh m0 G x0 28 2 (LE es')∧EdR n es'∧es'.length=es.length+i,fun _ _ x5 _=>D.length-x5.toNat,⟨rfl,⟨Nat.le_refl _,fun _ _ _ h=>h⟩,oc,fun b hb=>.inl hb,0,es,rfl,by omega,hF,hr,rfl⟩,?_⟩
 rintro x0 x1 x5 G ⟨rfl,kp,oG,hbk,i,es',rfl,hi,hFG,hrG,hlG⟩
 have hkl:=kp.len
 have hiG:Ints G (.slice (some ⟨c,0,none⟩) D.length (D.length+1)) D:=own_ints oG
 unfold F209.B5
 refine lenK_of (pif_cases (fun hb=>?_) fun hb=>?_)
 ·have hlt:i<D.length:=by have:=of_decide_eq_true hb;omega
  have t0:0≤Int.tmod ((i:Int)+1) (D.length:Int):=Int.tmod_nonneg _ (by omega)
  have t1:Int.tmod ((i:Int)+1) (D.length:Int)<D.length:=Int.tmod_lt_of_pos _ (by omega)
  have r1:=hD (D.getD (i:Int).toNat 0) (by rw [getD_of (by omega)];exact List.getElem_mem _)
  have t2:(Int.tmod ((i:Int)+1) (D.length:Int)).toNat<D.length:=(Int.toNat_lt t0).2 t1
  have r2:=hD (D.getD (Int.tmod ((i:Int)+1) (D.length:Int)).toNat 0) (by rw [getD_of t2];exact List.getElem_mem _)
  unfold F209.B4
  rw [wrap_id (by omega) (by omega)]
  have d0:((D.length:Nat):Int)≠0:=by omega
  refine hiG.rd (by omega) (by omega) (lenK_of (pif_t (by simpa using d0) (hiG.rd t0 t1 ?_)))
  refine push_edge (x:=(D.getD (i:Int).toNat 0,D.getD (Int.tmod ((i:Int)+1) (D.length:Int)).toNat 0)) hFG (Nat.le_trans hm hkl) (by rw [hlG];exact Nat.lt_of_le_of_lt (show es.length+i≤1000 by omega) (by decide)) fun v3 G4 k4 ot nb f4=>?_
  unfold F209.B3
  rw [wrap_id (by omega) (by omega)]
  refine ⟨⟨rfl,⟨by have:=k4.len;omega,fun b o hb ho=>k4.old b o hb (kp.old b o hb ho)⟩,ot c _ (fun h=>?_) oG,fun b hb=>.inr (by have:=nb b hb;omega),i+1,_,by omega,by omega,f4,hrG.snoc r1 r2,by simp;omega⟩,by simp;omega⟩
  rcases hbk c h with h|h
  ·exact hc h
  ·omega
 ·have hie:i=D.length:=by have:=of_decide_eq_false hb;omega
  subst hie
  unfold F209.B1
  exact k x0 es' G kp hFG hrG hlG hbk
end Go.Proofs
namespace Go.Proofs
open Go.Abs

variable {H G Hb H0:AHeap} {v u f w:Value} {l m D:List Int} {es fs:List (Int × Int)} {K:Value→AHeap→Prop} {bs:Nat} {n:Int}

theorem LI_one:∀ (l:List Int),(LI l).all Value.oneCell'=true
 | []=>rfl
 | x::l=>by show (Value.int .i64 x::LI l).all Value.oneCell'=true;rw [List.all_cons,LI_one l];rfl
theorem LE_one:∀ (l:List (Int × Int)),(LE l).all Value.oneCell'=true
 | []=>rfl
 | x::l=>by rw [LE_cons,List.all_cons,List.all_cons,LE_one l];rfl
theorem push_edges {m0:Nat} (fs:List (Int × Int)) {cs:List Value} {c:Nat} (hF:Fresh m0 H v 28 2 (LE es)) (hm:m0≤H.length) (hc:cs=LE fs) (hn:c=fs.length) (h0:0<fs.length) (hl:es.length+fs.length≤1000)
 (k:∀ v' G,Keep m0 H G→Fresh m0 G v' 28 2 (LE (es++fs))→K v' G) :
 newK H cs 28 (fun b1 H2=>apK T0 28 H2 v (.slice (some ⟨b1,0,none⟩) c (c+1)) K):=by
 subst hc;subst hn
 refine newK_f (LE_one fs) fun H2 l2 n2 o2=>?_
 have hE:Edges H2 (.slice (some ⟨H.length,0,none⟩) fs.length (fs.length+1)) fs:=Fresh.edges (m:=0) (e:=28) (.inr ⟨_,fs.length,Nat.zero_le _,rfl,o2,by rw [LE_length]⟩)
 exact app_edges (hF.sl.le l2) (Nat.le_trans hm l2.1) hE h0 (by omega) fun v' G k1 _ f=>k v' G ((Keep.of_le l2).trans k1) f
theorem EdR.nil:EdR n []:=fun e he=>absurd he (by simp)
theorem EdR.cons {a b:Int} (h1:0≤a∧a<n) (h2:0≤b∧b<n) (h:EdR n es):EdR n ((a,b)::es):=fun e he=>by
 rcases List.mem_cons.1 he with rfl|he
 ·exact ⟨h1.1,h1.2,h2.1,h2.2⟩
 ·exact h e he
theorem EdR.app (h:EdR n es) (g:EdR n fs):EdR n (es++fs):=fun e he=>by
 rcases List.mem_append.1 he with he|he
 ·exact h e he
 ·exact g e he
theorem EdR.up {n':Int} (h:EdR n es) (hn:n≤n'):EdR n' es:=fun e he=>by
 have:=h e he;omega
def NamK (n:Int) (c:Nat) (H:AHeap) (K:Value→AHeap→Prop):Prop:=∀ v es G,H.le G→Fresh H.length G v 28 2 (LE es)→Gd n es→es.length≤c→K (.tuple ⟨[.agg ⟨[.int .i64 n,v]⟩,.bool true]⟩) G
theorem made_tail {c:Nat} (k:NamK n c H0 K) (l0:H0.le H) (o:Own H H0.length 31 [.int .i64 0,.slice none 0 0]) (h:Edges H v es) (hr:EdR n es) (h0:0<es.length) (hl:es.length≤c) (hc:c≤40:=by decide) :
 AC Tryz.prog T0 60 [.int .i64 n,v] H (fun v1 H2=>agg2 v1 (fun v3 v4=>asI .i64 v3 (fun v5=>stK H2 H0.length 0 [.int .i64 v5,v4] (fun H7=>ldI .i64 H7 H0.length 0 (fun v8=>ld1 H7 H0.length 1 (fun v9=>K (.tuple ⟨[.agg ⟨[.int .i64 v8,v9]⟩,.bool true]⟩) H7)))))):=by
 have hlt:=o.lt
 have hg:Gd n es:=⟨h0,by omega,hr⟩
 refine l01Made_ok h (by omega) fun v2 G2 l2 f2=>agg2_mk (asI_mk ?_)
 refine stK_f (new:=[.int .i64 n,v2]) (o.le l2) (by simp) (mem_iv (fresh_one f2)) rfl fun G5 b5 o5=>ldI_own o5 rfl (ld1_own o5 rfl ?_)
 have hll:=l0.1
 exact k v2 _ G5 (b5.le (AHeap.le_trans l0 l2) (Nat.le_refl _)) ((f2.but b5 hlt).less hll) hg.made (by rw [srtE_length,List.length_map];exact hl)
structure NmS (H0 H:AHeap) (v:Value) (es:List (Int × Int)):Prop where
 kp:Keep (H0.length+1) H0 H
 ob:Own H H0.length 31 [.int .i64 0,.slice none 0 0]
 f:Fresh (H0.length+1) H v 28 2 (LE es)
theorem NmS.len (h:NmS H0 H v es):H0.length+1≤H.length:=h.ob.lt
theorem NmS.le0 (h:NmS H0 H v es):H0.le H:=h.kp.le (AHeap.le_refl _) (Nat.le_succ _)
theorem NmS.le (h:NmS H0 H v es) (l:H.le G):NmS H0 G v es:=⟨h.kp.trans (.of_le l),h.ob.le l,h.f.le l⟩
theorem NmS.push (fs:List (Int × Int)) {cs:List Value} {c:Nat} (h:NmS H0 H v es) (hc:cs=LE fs) (hn:c=fs.length) (h0:0<fs.length) (hl:es.length+fs.length≤1000) (k:∀ v' G,NmS H0 G v' (es++fs)→K v' G) :
 newK H cs 28 (fun b1 H2=>apK T0 28 H2 v (.slice (some ⟨b1,0,none⟩) c (c+1)) K):=
 push_edges fs h.f h.len hc hn h0 hl fun v' G k1 f=>k v' G ⟨h.kp.trans k1,k1.own h.ob (Nat.lt_succ_self _),f⟩
theorem NmS.cyc (D:List Int) {cs:List Value} {c:Nat} (h:NmS H0 H v es) (hc:cs=LI D) (hn:c=D.length) (hr:EdR n es) (hD:∀ x∈D,0≤x∧x<n) (hl:es.length+D.length≤1000) (k:∀ v' es' G,NmS H0 G v' es'→EdR n es'→es'.length=es.length+D.length→K v' G) :
 newK H cs 2 (fun b1 H2=>AC Tryz.prog T0 209 [v,.slice (some ⟨b1,0,none⟩) c (c+1)] H2 K):=by
 subst hc;subst hn
 refine newK_f (LI_one D) fun H2 l2 n2 o2=>?_
 have h2:=h.le l2
 exact l01Cycle_ok h2.f h2.len o2 (fun e=>by have:=(h.f.bk_lt e).2;omega) hr hD hl fun v' es' G k1 f r e _=>k v' es' G ⟨h2.kp.trans k1,k1.own h2.ob (Nat.lt_succ_self _),f⟩ r e
theorem NmS.made {c:Nat} (k:NamK n c H0 K) (h:NmS H0 H v es) (hr:EdR n es) (h0:0<es.length) (hl:es.length≤c) (hc:c≤40:=by decide) :
 AC Tryz.prog T0 60 [.int .i64 n,v] H (fun v1 H2=>agg2 v1 (fun v3 v4=>asI .i64 v3 (fun v5=>stK H2 H0.length 0 [.int .i64 v5,v4] (fun H7=>ldI .i64 H7 H0.length 0 (fun v8=>ld1 H7 H0.length 1 (fun v9=>K (.tuple ⟨[.agg ⟨[.int .i64 v8,v9]⟩,.bool true]⟩) H7)))))):=
 made_tail k h.le0 h.ob h.f.edges hr h0 hl hc
theorem nm_theta (k:NamK 2 40 H0 K) (h:NmS H0 H v []):F182.B2 K H0.length H:=by
 unfold F182.B2
 refine newK_f rfl fun H2 l2 n2 o2=>?_
 have h2:=h.le l2
 have hE:Edges H2 (.slice (some ⟨H.length,0,none⟩) 3 (3+1)) [(0,1),(0,1),(0,1)]:=Fresh.edges (m:=0) (e:=28) (.inr ⟨_,3,Nat.zero_le _,rfl,o2,rfl⟩)
 exact made_tail k h2.le0 h2.ob hE (by refine .cons ?_ ?_ (.cons ?_ ?_ (.cons ?_ ?_ .nil)) <;> decide) (by decide) (by decide)
theorem nm_k4 (k:NamK 4 40 H0 K) (h:NmS H0 H v []):F182.B3 K H0.length H:=by
 unfold F182.B3
 refine newK_f rfl fun H2 l2 n2 o2=>?_
 have h2:=h.le l2
 have hE:Edges H2 (.slice (some ⟨H.length,0,none⟩) 6 (6+1)) k4A:=Fresh.edges (m:=0) (e:=28) (.inr ⟨_,6,Nat.zero_le _,rfl,o2,rfl⟩)
 exact made_tail k h2.le0 h2.ob hE (by unfold k4A;refine .cons ?_ ?_ (.cons ?_ ?_ (.cons ?_ ?_ (.cons ?_ ?_ (.cons ?_ ?_ (.cons ?_ ?_ .nil))))) <;> decide) (by decide) (by decide)
theorem nm_k33 (k:NamK 6 40 H0 K) (h:NmS H0 H v []):F182.B9 K H0.length v H:=by
 unfold F182.B9 F182.L5
 refine ⟨fun x2 x4 x5 G=>H0.length=x2∧∃ (i:Nat) (es:List (Int × Int)),x5=i∧i≤3∧NmS H0 G x4 es∧EdR 6 es∧es.length=3*i,fun _ _ x5 _=>3-x5.toNat,⟨rfl,0,[],rfl,by omega,h,.nil,rfl⟩,?_⟩
 rintro x2 x4 x5 G ⟨rfl,i,es,rfl,hi,hS,hE,hl⟩
 unfold F182.B8
 refine pif_cases (fun hb=>?_) fun hb=>?_
 ·have hlt:=of_decide_eq_true hb
  unfold F182.B7
  refine hS.push [((i:Int),3),((i:Int),4),((i:Int),5)] rfl rfl (by simp) (by simp;omega) fun v' G' h'=>?_
  unfold F182.B6
  rw [wrap_id (by omega) (by omega)]
  exact ⟨⟨rfl,i+1,_,by omega,by omega,h',hE.app (by refine .cons ?_ ?_ (.cons ?_ ?_ (.cons ?_ ?_ .nil)) <;> omega),by simp;omega⟩,by simp;omega⟩
 ·have hge:=of_decide_eq_false hb
  unfold F182.B4
  exact hS.made k hE (by omega) (by omega)
theorem nm_prism (k:NamK 6 40 H0 K) (h:NmS H0 H v []):F182.B11 K H0.length v H:=by
 unfold F182.B11
 refine h.cyc (n:=6) [0,1,2] rfl rfl .nil (fun x hx=>by simp at hx;omega) (by decide) fun v1 es1 G1 h1 r1 e1=>h1.cyc (n:=6) [3,4,5] rfl rfl r1 (fun x hx=>by simp at hx;omega) (by rw [e1];decide) fun v2 es2 G2 h2 r2 e2=>?_
 unfold F182.B10
 have hl2:es2.length=6:=by rw [e2,e1];rfl
 refine h2.push [(0,3),(1,4),(2,5)] rfl rfl (by simp) (by simp;omega) fun v3 G3 h3=>?_
 exact h3.made k (n:=6) (r2.app (by refine .cons ?_ ?_ (.cons ?_ ?_ (.cons ?_ ?_ .nil)) <;> decide)) (by simp) (by simp;omega)
theorem cube_bit:∀ i:Fin 8,∀ j:Fin 3,((IntKind.i64.wrap ((BitVec.ofInt 64 (i.val:Int)&&&BitVec.ofInt 64 ((2^j.val:Nat):Int)).toNat:Int):Int)==0)=true→i.val+2^j.val<8:=by decide +kernel
theorem cube_zero:∀ j:Fin 3,((IntKind.i64.wrap ((BitVec.ofInt 64 (((0:Nat):Int))&&&BitVec.ofInt 64 ((2^j.val:Nat):Int)).toNat:Int):Int)==0)=true:=by decide +kernel
theorem nm_cube (k:NamK 8 40 H0 K) (h:NmS H0 H v []):F182.B22 K H0.length v H:=by
 unfold F182.B22 F182.L13
 refine ⟨fun x2 x4 x6 G=>H0.length=x2∧∃ (i:Nat) (es:List (Int × Int)),x6=i∧i≤8∧NmS H0 G x4 es∧EdR 8 es∧es.length≤3*i∧(0<i→0<es.length),fun _ _ x6 _=>8-x6.toNat,⟨rfl,0,[],rfl,by omega,h,.nil,by simp,by simp⟩,?_⟩
 rintro x2 x4 x6 G ⟨rfl,i,es,rfl,hi,hS,hE,hl,hp⟩
 unfold F182.B21
 refine pif_cases (fun hb=>?_) fun hb=>?_
 ·have hlt:=of_decide_eq_true hb
  unfold F182.B20 F182.L15
  refine ⟨fun x2 x4 x6 x7 G=>H0.length=x2∧(i:Int)=x6∧∃ (j:Nat) (es:List (Int × Int)),x7=((2^j:Nat):Int)∧j≤3∧NmS H0 G x4 es∧EdR 8 es∧es.length≤3*i+j∧(0<i∨0<j→0<es.length),fun _ _ _ x7 _=>8-x7.toNat,⟨rfl,rfl,0,es,rfl,by omega,hS,hE,by omega,fun h=>hp (by omega)⟩,?_⟩
  rintro x2 x4 x6 x7 G ⟨rfl,rfl,j,es,rfl,hj,hS,hE,hl,hp⟩
  unfold F182.B19
  have p3:j=0∨j=1∨j=2∨j=3:=by omega
  refine pif_cases (fun hc=>?_) fun hc=>?_
  ·have hj3:j<3:=by
    have hc:=of_decide_eq_true hc
    rcases p3 with rfl|rfl|rfl|rfl <;> first|omega|(exact absurd hc (by decide))
   have h2:2^(j+1)=2*2^j:=by rw [Nat.pow_succ,Nat.mul_comm]
   have h4:2^j≤4∧1≤2^j:=by
    have:j=0∨j=1∨j=2:=by omega
    rcases this with rfl|rfl|rfl <;> decide
   unfold F182.B18
   refine pif_cases (fun hd=>?_) fun hd=>?_
   ·have hlt8:=cube_bit ⟨i,by omega⟩ ⟨j,hj3⟩ hd
    simp only at hlt8
    unfold F182.B17
    rw [wrap_id (by omega) (by omega)]
    refine hS.push [((i:Int),(i:Int)+((2^j:Nat):Int))] rfl rfl (by simp) (by simp;omega) fun v' G' h'=>?_
    unfold F182.B16
    rw [wrap_id (by omega) (by omega)]
    exact ⟨⟨rfl,rfl,j+1,_,by rw [h2];omega,by omega,h',hE.app (.cons (by omega) (by omega) .nil),by simp;omega,fun _=>by simp⟩,by show 8-(2*((2^j:Nat):Int)).toNat<8-(((2^j:Nat):Int)).toNat;generalize 2^j=q at h4 ⊢;omega⟩
   ·unfold F182.B16
    rw [wrap_id (by omega) (by omega)]
    refine ⟨⟨rfl,rfl,j+1,es,by rw [h2];omega,by omega,hS,hE,by omega,fun _=>?_⟩,by show 8-(2*((2^j:Nat):Int)).toNat<8-(((2^j:Nat):Int)).toNat;generalize 2^j=q at h4 ⊢;omega⟩
    by_cases h0:i=0
    ·subst h0
     have hz:=cube_zero ⟨j,hj3⟩
     rw [hd] at hz;cases hz
    ·exact hp (by omega)
  ·have hj3:j=3:=by
    have hc:=of_decide_eq_false hc
    rcases p3 with rfl|rfl|rfl|rfl <;> first|rfl|(exact absurd (by decide) hc)
   subst hj3
   unfold F182.B14
   rw [wrap_id (by omega) (by omega)]
   exact ⟨⟨rfl,i+1,es,by omega,by omega,hS,hE,by omega,fun _=>hp (.inr (by decide))⟩,by simp;omega⟩
 ·have hge:=of_decide_eq_false hb
  unfold F182.B12
  exact hS.made k hE (hp (by omega)) (by omega)
theorem nm_petersen (k:NamK 10 15 H0 K) (h:NmS H0 H v []):F182.B28 K H0.length v H:=by
 unfold F182.B28 F182.L24
 refine ⟨fun x2 x4 x8 G=>H0.length=x2∧∃ (i:Nat) (es:List (Int × Int)),x8=i∧i≤5∧NmS H0 G x4 es∧EdR 10 es∧es.length=3*i,fun _ _ x8 _=>5-x8.toNat,⟨rfl,0,[],rfl,by omega,h,.nil,rfl⟩,?_⟩
 rintro x2 x4 x8 G ⟨rfl,i,es,rfl,hi,hS,hE,hl⟩
 unfold F182.B27
 refine pif_cases (fun hb=>?_) fun hb=>?_
 ·have hlt:=of_decide_eq_true hb
  unfold F182.B26
  rw [wrap_id (x:=(i:Int)+1) (by omega) (by omega),wrap_id (x:=(i:Int)+5) (by omega) (by omega),wrap_id (x:=(i:Int)+2) (by omega) (by omega)]
  have t0:0≤Int.tmod ((i:Int)+1) 5:=Int.tmod_nonneg _ (by omega)
  have t1:Int.tmod ((i:Int)+1) 5<5:=Int.tmod_lt_of_pos _ (by omega)
  have s0:0≤Int.tmod ((i:Int)+2) 5:=Int.tmod_nonneg _ (by omega)
  have s1:Int.tmod ((i:Int)+2) 5<5:=Int.tmod_lt_of_pos _ (by omega)
  obtain ⟨a,ha⟩:∃ a,a=Int.tmod ((i:Int)+1) 5:=⟨_,rfl⟩
  obtain ⟨b,hb⟩:∃ b,b=Int.tmod ((i:Int)+2) 5:=⟨_,rfl⟩
  rw [← ha] at t0 t1 ⊢
  rw [← hb] at s0 s1 ⊢
  rw [wrap_id (x:=b+5) (by omega) (by omega)]
  refine hS.push [((i:Int),a),((i:Int),(i:Int)+5),((i:Int)+5,b+5)] rfl rfl (by simp) (by simp;omega) fun v' G' h'=>?_
  unfold F182.B25
  rw [wrap_id (by omega) (by omega)]
  exact ⟨⟨rfl,i+1,_,by omega,by omega,h',hE.app (by refine .cons ?_ ?_ (.cons ?_ ?_ (.cons ?_ ?_ .nil)) <;> omega),by simp;omega⟩,by simp;omega⟩
 ·have hge:=of_decide_eq_false hb
  unfold F182.B23
  exact hS.made k hE (by omega) (by omega)
theorem nm_flower (k:NamK 20 40 H0 K) (h:NmS H0 H v []):F182.B44 K H0.length v H:=by
 unfold F182.B44 F182.L40
 refine ⟨fun x2 x4 x12 G=>H0.length=x2∧∃ (i:Nat) (es:List (Int × Int)),x12=i∧i≤5∧NmS H0 G x4 es∧EdR 20 es∧es.length=3*i,fun _ _ x12 _=>5-x12.toNat,⟨rfl,0,[],rfl,by omega,h,.nil,rfl⟩,?_⟩
 rintro x2 x4 x12 G ⟨rfl,i,es,rfl,hi,hS,hE,hl⟩
 unfold F182.B43
 refine pif_cases (fun hb=>?_) fun hb=>?_
 ·have hlt:=of_decide_eq_true hb
  unfold F182.B42
  rw [wrap_id (x:=(i:Int)+5) (by omega) (by omega),wrap_id (x:=(i:Int)+10) (by omega) (by omega),wrap_id (x:=(i:Int)+15) (by omega) (by omega)]
  refine hS.push [((i:Int),(i:Int)+5),((i:Int),(i:Int)+10),((i:Int),(i:Int)+15)] rfl rfl (by simp) (by simp;omega) fun v' G' h'=>?_
  unfold F182.B41
  rw [wrap_id (by omega) (by omega)]
  exact ⟨⟨rfl,i+1,_,by omega,by omega,h',hE.app (by refine .cons ?_ ?_ (.cons ?_ ?_ (.cons ?_ ?_ .nil)) <;> omega),by simp;omega⟩,by simp;omega⟩
 ·have hge:=of_decide_eq_false hb
  unfold F182.B39
  refine hS.cyc (n:=20) [5,6,7,8,9] rfl rfl hE (fun x hx=>by simp at hx;omega) (by simp;omega) fun v1 es1 G1 h1 r1 e1=>?_
  unfold F182.B38
  have e1:es1.length=es.length+5:=e1
  refine h1.cyc (n:=20) [10,11,12,13,14,15,16,17,18,19] rfl rfl r1 (fun x hx=>by simp at hx;omega) (by simp;omega) fun v2 es2 G2 h2 r2 e2=>?_
  have e2:es2.length=es1.length+10:=e2
  exact h2.made k r2 (by omega) (by omega)
theorem nm_bridge (k:NamK 10 40 H0 K) (h:NmS H0 H v []):F182.B50 K H0.length v H:=by
 unfold F182.B50 F182.L46
 refine ⟨fun x2 x4 x13 G=>H0.length=x2∧∃ (i:Nat) (es:List (Int × Int)),x13=5*(i:Int)∧i≤2∧NmS H0 G x4 es∧EdR 10 es∧es.length=7*i,fun _ _ x13 _=>10-x13.toNat,⟨rfl,0,[],rfl,by omega,h,.nil,rfl⟩,?_⟩
 rintro x2 x4 x13 G ⟨rfl,i,es,rfl,hi,hS,hE,hl⟩
 unfold F182.B49
 refine pif_cases (fun hb=>?_) fun hb=>?_
 ·have hlt:=of_decide_eq_true hb
  unfold F182.B48
  obtain ⟨x,hx⟩:∃ x,x=5*(i:Int):=⟨_,rfl⟩
  rw [← hx]
  rw [wrap_id (x:=x+1) (by omega) (by omega),wrap_id (x:=x+2) (by omega) (by omega),wrap_id (x:=x+3) (by omega) (by omega),wrap_id (x:=x+4) (by omega) (by omega)]
  refine hS.push [(x,x+2),(x,x+3),(x+1,x+2),(x+1,x+3),(x+2,x+3),(x,x+4),(x+1,x+4)] rfl rfl (by simp) (by simp;omega) fun v' G' h'=>?_
  unfold F182.B47
  rw [wrap_id (by omega) (by omega)]
  exact ⟨⟨rfl,i+1,_,by omega,by omega,h',hE.app (by refine .cons ?_ ?_ (.cons ?_ ?_ (.cons ?_ ?_ (.cons ?_ ?_ (.cons ?_ ?_ (.cons ?_ ?_ (.cons ?_ ?_ .nil)))))) <;> omega),by simp;omega⟩,by show 10-(x+5).toNat<10-x.toNat;omega⟩
 ·have hge:=of_decide_eq_false hb
  unfold F182.B45
  refine hS.push [(4,9)] rfl rfl (by simp) (by simp;omega) fun v' G' h'=>?_
  exact h'.made k (n:=10) (hE.app (.cons (by decide) (by decide) .nil)) (by simp) (by simp;omega)
theorem named_start {nm:ByteArray} (h:∀ H1 v,NmS H H1 v []→F182.B60 K nm H.length v H1):AC Tryz.prog T0 182 [.string nm] H K:=by
 apply F182.ac
 unfold F182.B62
 refine newK_f rfl fun H1 l1 n1 o1=>?_
 unfold F182.B61
 refine newK_f rfl fun H2 l2 n2 o2=>?_
 exact h H2 _ ⟨.of_le (AHeap.le_trans l1 l2),o1.le l2,.inr ⟨_,0,by omega,rfl,o2,rfl⟩⟩
theorem named_petersen (k:NamK 10 15 H K):AC Tryz.prog T0 182 [.string ⟨#[112,101,116,101,114,115,101,110]⟩] H K:=by
 refine named_start fun H1 v h=>?_
 unfold F182.B60 F182.B59
 refine pif_f (by decide +kernel) ?_
 unfold F182.B58
 refine pif_f (by decide +kernel) ?_
 unfold F182.B57
 refine pif_f (by decide +kernel) ?_
 unfold F182.B56
 refine pif_f (by decide +kernel) ?_
 unfold F182.B55
 refine pif_f (by decide +kernel) ?_
 unfold F182.B54
 exact pif_t (by decide +kernel) (nm_petersen k h)
theorem nm_tietze (k:NamK 12 40 H0 K) (h:NmS H0 H v []):F182.B37 K H0.length v H:=by
 unfold F182.B37
 refine named_petersen fun v0 es0 G0 l0 f0 g0 c0=>tup2_mk (agg2_mk (asI_mk (asB_mk (newK_f rfl fun H2 l2 n2 o2=>stK_f (new:=[.int .i64 10,v0]) o2 (by simp) (mem_iv (fresh_one f0)) rfl fun H3 b3 o3=>?_))))
 have l3:G0.le H3:=b3.le l2 (Nat.le_refl _)
 have h3:=h.le (AHeap.le_trans l0 l3)
 have f3:=f0.le l3
 have hl0:=l0.1
 unfold F182.B36 F182.L31
 refine ⟨fun x2 x4 x9 x11 G=>H0.length=x2∧G0.length=x9∧∃ (i:Nat) (es:List (Int × Int)),x11=i∧i≤es0.length∧NmS H0 G x4 es∧EdR 12 es∧es.length≤i∧Own G G0.length 31 [.int .i64 10,v0]∧Fresh H.length G v0 28 2 (LE es0)∧∀ b,bk x4=some b→b≠G0.length∧bk v0≠some b,fun _ _ _ x11 _=>es0.length-x11.toNat,⟨rfl,rfl,0,[],rfl,by omega,h3,.nil,by simp,o3,f3,fun b hb=>?_⟩,?_⟩
 ·have h4:=(h.f.bk_lt hb).2
  exact ⟨by omega,fun e=>by have:=(f0.bk_lt e).1;omega⟩
 rintro x2 x4 x9 x11 G ⟨rfl,rfl,i,es,rfl,hi,hS,hE,hl,oG,fG,hbk⟩
 have eG:=fG.edges
 unfold F182.B35
 refine ld1_own oG rfl (eG.len (pif_cases (fun hb=>?_) fun hb=>?_))
 ·have hlt:i<es0.length:=by have:=of_decide_eq_true hb;omega
  have hm:es0.getD i (0,0)∈es0:=by rw [getD_of hlt];exact List.getElem_mem _
  have hr:=g0.rng _ hm
  have hr12:EdR 12 (es++[es0.getD i (0,0)]):=fun e he=>by
   rcases List.mem_append.1 he with he|he
   ·exact hE e he
   ·rw [List.mem_singleton.1 he];omega
  obtain ⟨bb,oo,hk,q1,q2⟩:=eG.idx (show (0:Int)≤i by omega) (by omega)
  simp only [Int.toNat_natCast] at q1 q2
  unfold F182.B34
  refine ld1_own oG rfl (hk _ (ldI_mk q1 (pif_cases (fun hc=>?_) fun hc=>?_)))
  ·unfold F182.B33
   refine ld1_own oG rfl (hk _ (ldI_mk q1 (ldI_mk q2 ?_)))
   refine push_edge (x:=es0.getD i (0,0)) hS.f hS.len (by omega) fun v' G' k1 ot nb f'=>?_
   unfold F182.B32
   rw [wrap_id (by omega) (by omega)]
   refine ⟨⟨rfl,rfl,i+1,_,by omega,by omega,⟨hS.kp.trans k1,k1.own hS.ob (Nat.lt_succ_self _),f'⟩,hr12,by simp;omega,ot _ _ (fun e=>(hbk _ e).1 rfl) oG,fresh_oth fG fun b o hb ho=>ot b o (fun e=>(hbk b e).2 hb) ho,fun b hb=>?_⟩,by simp;omega⟩
   have h4:=nb b hb
   have h5:=oG.lt
   exact ⟨by omega,fun e=>by have:=(fG.bk_lt e).2;omega⟩
  ·unfold F182.B32
   rw [wrap_id (by omega) (by omega)]
   exact ⟨⟨rfl,rfl,i+1,es,by omega,by omega,hS,hE,by omega,oG,fG,hbk⟩,by simp;omega⟩
 ·unfold F182.B30
  refine hS.cyc (n:=12) [0,10,11] rfl rfl hE (fun x hx=>by simp at hx;omega) (by simp;omega) fun v1 es1 G1 h1 r1 e1=>?_
  have e1:es1.length=es.length+3:=e1
  unfold F182.B29
  refine h1.push [(0,1),(10,4),(11,5)] rfl rfl (by simp) (by simp;omega) fun v2 G2 h2=>?_
  exact h2.made k (n:=12) (r1.app (by refine .cons ?_ ?_ (.cons ?_ ?_ (.cons ?_ ?_ .nil)) <;> decide)) (by simp) (by simp;omega)
def nameL:List ByteArray:=[⟨#[116,104,101,116,97]⟩,⟨#[107,52]⟩,⟨#[107,51,51]⟩,⟨#[112,114,105,115,109]⟩,⟨#[99,117,98,101]⟩,⟨#[112,101,116,101,114,115,101,110]⟩,⟨#[116,105,101,116,122,101]⟩,⟨#[102,108,111,119,101,114,53]⟩,⟨#[98,114,105,100,103,101]⟩]
theorem named_tietze (k:NamK 12 40 H K):AC Tryz.prog T0 182 [.string ⟨#[116,105,101,116,122,101]⟩] H K:=by
 refine named_start fun H1 v h=>?_
 unfold F182.B60 F182.B59
 refine pif_f (by decide +kernel) ?_
 unfold F182.B58
 refine pif_f (by decide +kernel) ?_
 unfold F182.B57
 refine pif_f (by decide +kernel) ?_
 unfold F182.B56
 refine pif_f (by decide +kernel) ?_
 unfold F182.B55
 refine pif_f (by decide +kernel) ?_
 unfold F182.B54
 refine pif_f (by decide +kernel) ?_
 unfold F182.B53
 exact pif_t (by decide +kernel) (nm_tietze k h)
theorem l01Named_ok {nm:ByteArray} (hn:nm∈nameL) (k:∀ n,2≤n→n≤20→NamK n 40 H K):AC Tryz.prog T0 182 [.string nm] H K:=by
 unfold nameL at hn
 simp only [List.mem_cons,List.not_mem_nil,or_false] at hn
 rcases hn with rfl|rfl|rfl|rfl|rfl|rfl|rfl|rfl|rfl
 ·refine named_start fun H1 v h=>?_
  unfold F182.B60 F182.B59
  exact pif_t (by decide +kernel) (nm_theta (k 2 (by decide) (by decide)) h)
 ·refine named_start fun H1 v h=>?_
  unfold F182.B60 F182.B59
  refine pif_f (by decide +kernel) ?_
  unfold F182.B58
  exact pif_t (by decide +kernel) (nm_k4 (k 4 (by decide) (by decide)) h)
 ·refine named_start fun H1 v h=>?_
  unfold F182.B60 F182.B59
  refine pif_f (by decide +kernel) ?_
  unfold F182.B58
  refine pif_f (by decide +kernel) ?_
  unfold F182.B57
  exact pif_t (by decide +kernel) (nm_k33 (k 6 (by decide) (by decide)) h)
 ·refine named_start fun H1 v h=>?_
  unfold F182.B60 F182.B59
  refine pif_f (by decide +kernel) ?_
  unfold F182.B58
  refine pif_f (by decide +kernel) ?_
  unfold F182.B57
  refine pif_f (by decide +kernel) ?_
  unfold F182.B56
  exact pif_t (by decide +kernel) (nm_prism (k 6 (by decide) (by decide)) h)
 ·refine named_start fun H1 v h=>?_
  unfold F182.B60 F182.B59
  refine pif_f (by decide +kernel) ?_
  unfold F182.B58
  refine pif_f (by decide +kernel) ?_
  unfold F182.B57
  refine pif_f (by decide +kernel) ?_
  unfold F182.B56
  refine pif_f (by decide +kernel) ?_
  unfold F182.B55
  exact pif_t (by decide +kernel) (nm_cube (k 8 (by decide) (by decide)) h)
 ·exact named_petersen fun v es G l f g c=>k 10 (by decide) (by decide) v es G l f g (by omega)
 ·exact named_tietze (k 12 (by decide) (by decide))
 ·refine named_start fun H1 v h=>?_
  unfold F182.B60 F182.B59
  refine pif_f (by decide +kernel) ?_
  unfold F182.B58
  refine pif_f (by decide +kernel) ?_
  unfold F182.B57
  refine pif_f (by decide +kernel) ?_
  unfold F182.B56
  refine pif_f (by decide +kernel) ?_
  unfold F182.B55
  refine pif_f (by decide +kernel) ?_
  unfold F182.B54
  refine pif_f (by decide +kernel) ?_
  unfold F182.B53
  refine pif_f (by decide +kernel) ?_
  unfold F182.B52
  exact pif_t (by decide +kernel) (nm_flower (k 20 (by decide) (by decide)) h)
 ·refine named_start fun H1 v h=>?_
  unfold F182.B60 F182.B59
  refine pif_f (by decide +kernel) ?_
  unfold F182.B58
  refine pif_f (by decide +kernel) ?_
  unfold F182.B57
  refine pif_f (by decide +kernel) ?_
  unfold F182.B56
  refine pif_f (by decide +kernel) ?_
  unfold F182.B55
  refine pif_f (by decide +kernel) ?_
  unfold F182.B54
  refine pif_f (by decide +kernel) ?_
  unfold F182.B53
  refine pif_f (by decide +kernel) ?_
  unfold F182.B52
  refine pif_f (by decide +kernel) ?_
  unfold F182.B51
  exact pif_t (by decide +kernel) (nm_bridge (k 10 (by decide) (by decide)) h)
end Go.Proofs
namespace Go.Proofs
open Go.Abs

variable {H G G' Hb H0:AHeap} {v u f w:Value} {l m D:List Int} {es fs:List (Int × Int)} {K:Value→AHeap→Prop} {bs:Nat} {n:Int}

theorem sl_edges {m0:Nat} {t:TypeId} (h:Sl m0 H v t 2 (LE es)):Edges H v es:=by
 rcases h with ⟨h1,h2⟩|⟨b,n,pre,post,h1,rfl,h3,h4⟩
 ·have:es=[]:=by
   cases es with
   | nil=>rfl
   | cons x l=>rw [LE_cons] at h1;cases h1
  subst this
  rcases h2 with rfl|⟨a,rfl⟩
  ·exact .inl ⟨rfl,rfl⟩
  ·exact .inr ⟨a,0,rfl,.inl rfl⟩
 ·have hn:n=es.length:=by rw [LE_length] at h4;omega
  subst hn
  refine .inr ⟨_,_,rfl,.inr ⟨rfl,fun i x hx=>?_⟩⟩
  have hi:i<es.length:=lt_of_get hx
  have hg:=LE_get es i x hx
  have key:∀ j,j<(LE es).length→H.cell b (pre.length+j)=(LE es)[j]?:=fun j hj=>by
   rw [h3.cell,List.append_assoc,List.getElem?_append_right (Nat.le_add_right _ _),Nat.add_sub_cancel_left,List.getElem?_append_left hj]
  have hl:=LE_length es
  refine ⟨?_,?_⟩
  ·rw [key _ (by omega)];exact hg.1
  ·rw [Nat.add_assoc,key _ (by omega)];exact hg.2
theorem Src.but {x:Nat} (h:Src Hb bs G) (b:But x G G') (hx:bs<x):Src Hb bs G':=by
 obtain ⟨h1,h2,cv,l,a,y,h3,h4,h5,h6,h7⟩:=h
 exact ⟨b.le h1 (by omega),h2,cv,l,a,y,h3,h4,b.own h5 (by omega),h6,h7⟩
theorem Kb.but {x:Nat} (h:Kb bs H G) (b:But x G G') (hx:H.length≤x):Kb bs H G':=⟨by rw [b.len];exact h.len,fun q o hq ho=>by
 have:=lt_of_get ho
 rw [b.same q (by omega)];exact h.old q o hq ho⟩
theorem Kb.own {b:Nat} {t:TypeId} {cs:List Value} (h:Kb bs H G) (o:Own H b t cs) (hb:b≠bs):Own G b t cs:=h.old b _ hb o
theorem fresh_kb {m0:Nat} {t:TypeId} {z:Nat} {cs:List Value} (h:Fresh m0 H v t z cs) (k:Kb bs H G) (hm:bs<m0):Fresh m0 G v t z cs:=fresh_oth h fun b o hb ho=>k.old b o (by have:=(h.bk_lt hb).1;omega) ho
theorem draw_tail {x2:Nat} (s:Src Hb bs G) (kb:Kb bs H G) (hbs:bs<x2) (hx:H.length≤x2) (ob:Own G x2 31 [.int .i64 0,.slice none 0 0]) (h1:v.oneCell'=true) (k:∀ G',But x2 G G'→Kb bs H G'→Src Hb bs G'→K (.agg ⟨[.int .i64 n,v]⟩) G') :
 stK G x2 0 [.int .i64 n,v] (fun H7=>ldI .i64 H7 x2 0 (fun v8=>ld1 H7 x2 1 (fun v9=>K (.agg ⟨[.int .i64 v8,v9]⟩) H7))):=by
 refine stK_f (new:=[.int .i64 n,v]) ob (by simp) (mem_iv h1) rfl fun G5 b5 o5=>ldI_own o5 rfl (ld1_own o5 rfl ?_)
 exact k G5 b5 (kb.but b5 hx) (s.but b5 hbs)
structure Gd2 (n:Int) (es:List (Int × Int)):Prop where
 pos:0<es.length
 len:es.length≤2000
 rng:EdR n es
 lo:2≤n
 hi:n≤200
theorem name_get {i c:Nat} (h:i<c) (hc:c≤9):∃ nm∈nameL,((nameL.take c).map Value.string)[i]?=some (.string nm):=by
 have hi:i<nameL.length:=by have:nameL.length=9:=rfl;omega
 refine ⟨nameL[i],List.getElem_mem hi,?_⟩
 rw [List.getElem?_map,List.getElem?_take_of_lt h,List.getElem?_eq_getElem hi];rfl
theorem l01Small_ok (hs:Src Hb bs H) (k:∀ v' n es G,Kb bs H G→Src Hb bs G→Fresh H.length G v' 28 2 (LE es)→Gd n es→2≤n→n≤20→K (.agg ⟨[.int .i64 n,v']⟩) G) :
 AC Tryz.prog T0 142 [.pointer (some ⟨bs,0,none⟩)] H K:=by
 have hbs:=hs.lt
 apply F142.ac
 unfold F142.B6
 refine newK_f rfl fun H1 l1 n1 o1=>?_
 unfold F142.B5
 refine l01Next_ok (hs.le l1) fun r G1 k1 s1 r0 r1 _=>asI_mk (pif_cases (fun hb=>?_) fun hb=>?_)
 ·unfold F142.B4
  have kb1:Kb bs H G1:=(Kb.of_le l1).trans k1
  have ob1:=k1.own o1 (by omega)
  refine newK_f rfl fun G2 l2 n2 o2=>?_
  have kb2:=kb1.trans (.of_le l2)
  have hG1:=kb1.len
  unfold F142.B3
  refine lenK_of (l01Next_ok (s1.le l2) fun r' G3 k3 s3 r0' r1' _=>asI_mk ?_)
  have hr:=r1' (by decide)
  obtain ⟨nm,hnm,hget⟩:=name_get (i:=r'.toNat) (c:=6) (by omega) (by decide)
  have o3:=k3.own o2 (by omega)
  have kb3:=kb2.trans k3
  have hG3:=kb3.len
  have ob3:=k3.own (ob1.le l2) (by omega)
  refine own_idx r0' hr (ld1_own o3 hget (asS_mk (l01Named_ok hnm fun n a0 a1 v0 es0 G4 l4 f4 g4 c4=>tup2_mk (agg2_mk (asI_mk (asB_mk (newK_f rfl fun G5 l5 n5 o5=>stK_f (new:=[.int .i64 n,v0]) o5 (by simp) (mem_iv (fresh_one f4)) rfl fun G6 b6 o6=>?_)))))))
  have l6:G4.le G6:=b6.le l5 (Nat.le_refl _)
  have l36:=AHeap.le_trans l4 l6
  have f6:=f4.le l6
  have s6:=s3.le l36
  have ob6:=ob3.le l36
  have kb6:=kb3.trans (.of_le l36)
  have hG6:=kb6.len
  have hl4:=l4.1
  unfold F142.B2
  refine ldI_own o6 rfl (ld1_own o6 rfl (ldI_own o6 rfl (l01DrawOrder_ok s6 (by omega) fun w D G7 k7 s7 f7 hDl hDr=>?_)))
  have o7:=k7.own o6 (by omega)
  have ob7:=k7.own ob6 (by omega)
  have kb7:=kb6.trans k7
  have f67:=fresh_kb f6 k7 (by omega)
  refine ⟨ldI_own o7 rfl (ld1_own o7 rfl ⟨rfl,rfl⟩),?_⟩
  refine l01Renamed_ok f67.edges g4 f7.ints hDl hDr fun v' es' G8 l8 f8 g8=>agg2_mk (asI_mk (draw_tail (s7.le l8) (kb7.trans (.of_le l8)) hbs (Nat.le_refl _) (ob7.le l8) (fresh_one f8) fun G9 b9 kb9 s9=>?_))
  have hG7:=ob7.lt
  exact k v' n es' G9 kb9 s9 (f8.but b9 (by omega) |>.less (by omega)) g8 a0 a1
 ·unfold F142.B1
  have kb1:Kb bs H G1:=(Kb.of_le l1).trans k1
  have ob1:=k1.own o1 (by omega)
  have hG1:=k1.len
  refine newK_f rfl fun G2 l2 n2 o2=>?_
  refine l01Pick_ok (l:=[2,4,4,6,6,8,8,10]) (s1.le l2) (own_ints (l:=[2,4,4,6,6,8,8,10]) o2) (by decide) (by decide) (fun x hx=>by simp at hx;omega) (fun G3 k3=>own_ints (l:=[2,4,4,6,6,8,8,10]) (k3.own o2 (by omega))) fun r' G3 k3 s3 hr=>asI_mk ?_
  have hr:2≤r'∧r'≤10∧r'%2=0:=by simp at hr;omega
  have kb3:=(kb1.trans (.of_le l2)).trans k3
  have ob3:=k3.own (ob1.le l2) (by omega)
  have hG3:=k3.len
  have hG2:=l2.1
  refine l01DrawOf_ok s3 hr.1 (by omega) hr.2.2 fun v' es' G4 k4 s4 f4 g4=>agg2_mk (asI_mk (draw_tail s4 (kb3.trans k4) hbs (Nat.le_refl _) (k4.own ob3 (by omega)) (fresh_one f4) fun G9 b9 kb9 s9=>?_))
  exact k v' r' es' G9 kb9 s9 (f4.but b9 (by omega) |>.less (by omega)) g4 hr.1 (by omega)
theorem l01Beside_ok {n2:Int} (h:Edges H v es) (g:Edges H w fs) (hg:Gd n es) (hf:Gd n2 fs) (a0:2≤n) (a1:n≤100) (b0:2≤n2) (b1:n2≤100) (k:∀ v' es' G,H.le G→Fresh H.length G v' 28 2 (LE es')→Gd2 (n+n2) es'→K (.agg ⟨[.int .i64 (n+n2),v']⟩) G) :
 AC Tryz.prog T0 189 [.agg ⟨[.int .i64 n,v]⟩,.agg ⟨[.int .i64 n2,w]⟩] H K:=by
 have gl:=hg.len;have fl:=hf.len;have gp:=hg.pos
 apply F189.ac
 unfold F189.B8
 refine newK_f (all_iv (edges_one' h)) fun H1 l1 n1 o1=>newK_f (all_iv (edges_one' g)) fun H2 l2 n2' o2=>newK_f rfl fun H3 l3 n3 o3=>?_
 have o13:=(o1.le l2).le l3
 have o23:=o2.le l3
 have l03:=AHeap.le_trans l1 (AHeap.le_trans l2 l3)
 have hl03:=l03.1
 unfold F189.B7
 refine newK_f rfl fun H4 l4 n4 o4=>ld1_own (o13.le l4) rfl ?_
 have l04:=AHeap.le_trans l03 l4
 refine app_edges (m0:=H3.length) (es:=[]) (Fresh.sl (.inr ⟨_,0,Nat.le_refl _,rfl,o4,rfl⟩)) l4.1 (h.le l04) gp (by simp;omega) fun v5 H5 k5 _ f5=>?_
 have kp5:=(Keep.of_le l4).trans k5
 rw [List.nil_append] at f5
 unfold F189.B6 F189.L2
 refine ⟨fun x2 x3 x4 x5 x6 G=>H.length=x2∧H1.length=x3∧H2.length=x4∧Keep H3.length H3 G∧∃ (i:Nat) (es':List (Int × Int)),x6=i∧i≤fs.length∧Fresh H3.length G x5 28 2 (LE es')∧EdR (n+n2) es'∧es'.length=es.length+i,fun _ _ _ _ x6 _=>fs.length-x6.toNat,⟨rfl,rfl,rfl,kp5,0,es,rfl,by omega,f5,hg.rng.up (by omega),rfl⟩,?_⟩
 rintro x2 x3 x4 x5 x6 G ⟨rfl,rfl,rfl,kp,i,es',rfl,hi,hF,hE,hl⟩
 have lG:H.le G:=kp.le l03 hl03
 have p1:=kp.own o13 (o13.lt);have p2:=kp.own o23 (o23.lt);have p3:=kp.own o3 (o3.lt)
 have hgG:=g.le lG
 unfold F189.B5
 refine ld1_own p2 rfl (hgG.len (pif_cases (fun hb=>?_) fun hb=>?_))
 ·have hlt:i<fs.length:=by have:=of_decide_eq_true hb;omega
  have hm:fs.getD i (0,0)∈fs:=by rw [getD_of hlt];exact List.getElem_mem _
  have hr:=hf.rng _ hm
  obtain ⟨bb,oo,hk,q1,q2⟩:=hgG.idx (show (0:Int)≤i by omega) (by omega)
  simp only [Int.toNat_natCast] at q1 q2
  unfold F189.B4
  refine ld1_own p2 rfl (hk _ (ldI_mk q1 (ldI_own p1 rfl (ld1_own p2 rfl (hk _ (ldI_mk q2 (ldI_own p1 rfl ?_)))))))
  rw [wrap_id (by omega) (by omega),wrap_id (by omega) (by omega)]
  refine push_edge (x:=((fs.getD i (0,0)).1+n,(fs.getD i (0,0)).2+n)) hF kp.len (by omega) fun v3 G4 k4 _ _ f4=>?_
  unfold F189.B3
  rw [wrap_id (by omega) (by omega)]
  exact ⟨⟨rfl,rfl,rfl,kp.trans k4,i+1,_,by omega,by omega,f4,hE.snoc ⟨by omega,by omega⟩ ⟨by omega,by omega⟩,by simp;omega⟩,by simp;omega⟩
 ·have hge:=of_decide_eq_false hb
  unfold F189.B1
  refine ldI_own p1 rfl (ldI_own p2 rfl ?_)
  rw [wrap_id (by omega) (by omega)]
  refine l01Made_ok hF.edges (by omega) fun v' G2 l2' f2=>agg2_mk (asI_mk ?_)
  have hkl:=kp.len
  refine stK_f (new:=[.int .i64 (n+n2),v']) (p3.le l2') (by simp) (mem_iv (fresh_one f2)) rfl fun G5 b5 o5=>ldI_own o5 rfl (ld1_own o5 rfl ?_)
  have h3:=o3.lt
  have h12:=l1.1
  have h22:=l2.1
  exact k v' _ G5 (b5.le (AHeap.le_trans lG l2') (by omega)) ((f2.but b5 (by omega)).less (by omega)) ⟨by rw [srtE_length,List.length_map];omega,by rw [srtE_length,List.length_map];omega,hE.made,by omega,by omega⟩
theorem Gd.two (h:Gd n es) (a:2≤n) (b:n≤200):Gd2 n es:=⟨h.pos,by have:=h.len;omega,h.rng,a,b⟩
theorem l01Draw_ok (hs:Src Hb bs H) (k:∀ v' n es G,Kb bs H G→Src Hb bs G→Fresh H.length G v' 28 2 (LE es)→Gd2 n es→K (.agg ⟨[.int .i64 n,v']⟩) G) :
 AC Tryz.prog T0 153 [.pointer (some ⟨bs,0,none⟩)] H K:=by
 have hbs:=hs.lt
 apply F153.ac
 unfold F153.B8
 refine newK_f rfl fun H1 l1 n1 o1=>?_
 unfold F153.B7
 refine l01Next_ok (hs.le l1) fun r G1 k1 s1 r0 r1 _=>asI_mk ?_
 have kb1:Kb bs H G1:=(Kb.of_le l1).trans k1
 have ob1:=k1.own o1 (by omega)
 have hG1:=k1.len
 refine pif_cases (fun hb=>?_) fun hb=>?_
 ·unfold F153.B6
  apply F188.ac
  unfold F188.B2 F188.B1
  refine newK_f rfl fun G2 l2 n2 o2=>?_
  have kb2:=kb1.trans (.of_le l2)
  unfold F153.B5
  refine lenK_of (l01Next_ok (s1.le l2) fun r' G3 k3 s3 r0' r1' _=>asI_mk ?_)
  have hr:=r1' (by decide)
  obtain ⟨nm,hnm,hget⟩:=name_get (i:=r'.toNat) (c:=9) (by omega) (by decide)
  have o3:=k3.own o2 (by omega)
  have kb3:=kb2.trans k3
  have hG3:=kb3.len
  have ob3:=k3.own (ob1.le l2) (by omega)
  refine own_idx r0' hr (ld1_own o3 hget (asS_mk (l01Named_ok hnm fun n a0 a1 v0 es0 G4 l4 f4 g4 c4=>tup2_mk (agg2_mk (asI_mk (asB_mk (newK_f rfl fun G5 l5 n5 o5=>stK_f (new:=[.int .i64 n,v0]) o5 (by simp) (mem_iv (fresh_one f4)) rfl fun G6 b6 o6=>?_)))))))
  have l6:G4.le G6:=b6.le l5 (Nat.le_refl _)
  have l36:=AHeap.le_trans l4 l6
  have f6:=f4.le l6
  have s6:=s3.le l36
  have ob6:=ob3.le l36
  have kb6:=kb3.trans (.of_le l36)
  have hG6:=kb6.len
  have hl4:=l4.1
  unfold F153.B4
  refine ldI_own o6 rfl (ld1_own o6 rfl (ldI_own o6 rfl (l01DrawOrder_ok s6 (by omega) fun w D G7 k7 s7 f7 hDl hDr=>?_)))
  have o7:=k7.own o6 (by omega)
  have ob7:=k7.own ob6 (by omega)
  have kb7:=kb6.trans k7
  have f67:=fresh_kb f6 k7 (by omega)
  refine ⟨ldI_own o7 rfl (ld1_own o7 rfl ⟨rfl,rfl⟩),?_⟩
  refine l01Renamed_ok f67.edges g4 f7.ints hDl hDr fun v' es' G8 l8 f8 g8=>agg2_mk (asI_mk (draw_tail (s7.le l8) (kb7.trans (.of_le l8)) hbs (Nat.le_refl _) (ob7.le l8) (fresh_one f8) fun G9 b9 kb9 s9=>?_))
  have hG7:=ob7.lt
  exact k v' n es' G9 kb9 s9 (f8.but b9 (by omega) |>.less (by omega)) (g8.two a0 (by omega))
 ·unfold F153.B3
  refine l01Next_ok s1 fun r' G2 k2 s2 r0' r1' _=>asI_mk ?_
  have kb2:=kb1.trans k2
  have ob2:=k2.own ob1 (by omega)
  have hG2:=k2.len
  refine pif_cases (fun hb=>?_) fun hb=>?_
  ·unfold F153.B2
   refine l01Small_ok s2 fun va na ea G3 k3 s3 f3 g3 a0 a1=>agg2_mk (asI_mk ?_)
   have hG3:=k3.len
   refine l01Small_ok s3 fun vb nb eb G4 k4 s4 f4 g4 b0 b1=>agg2_mk (asI_mk ?_)
   have f34:=fresh_kb f3 k4 (by omega)
   have kb4:=(kb2.trans k3).trans k4
   have ob4:=k4.own (k3.own ob2 (by omega)) (by omega)
   have hG4:=k4.len
   refine l01Beside_ok f34.edges f4.edges g3 g4 a0 (by omega) b0 (by omega) fun v' es' G8 l8 f8 g8=>agg2_mk (asI_mk (draw_tail (s4.le l8) (kb4.trans (.of_le l8)) hbs (Nat.le_refl _) (ob4.le l8) (fresh_one f8) fun G9 b9 kb9 s9=>?_))
   exact k v' _ es' G9 kb9 s9 (f8.but b9 (by omega) |>.less (by omega)) g8
  ·unfold F153.B1
   refine newK_f rfl fun G3 l3 n3 o3=>?_
   refine l01Pick_ok (l:=[2,4,6,8,10,12,14,20]) (s2.le l3) (own_ints (l:=[2,4,6,8,10,12,14,20]) o3) (by decide) (by decide) (fun x hx=>by simp at hx;omega) (fun G3 k3=>own_ints (l:=[2,4,6,8,10,12,14,20]) (k3.own o3 (by omega))) fun r' G4 k4 s4 hr=>asI_mk ?_
   have hr:2≤r'∧r'≤20∧r'%2=0:=by simp at hr;omega
   have kb4:=(kb2.trans (.of_le l3)).trans k4
   have ob4:=k4.own (ob2.le l3) (by omega)
   have hG4:=k4.len
   have hG3:=l3.1
   refine l01DrawOf_ok s4 hr.1 (by omega) hr.2.2 fun v' es' G5 k5 s5 f5 g5=>agg2_mk (asI_mk (draw_tail s5 (kb4.trans k5) hbs (Nat.le_refl _) (k5.own ob4 (by omega)) (fresh_one f5) fun G9 b9 kb9 s9=>?_))
   exact k v' r' es' G9 kb9 s9 (f5.but b9 (by omega) |>.less (by omega)) (g5.two hr.1 (by omega))
end Go.Proofs
namespace Go.Proofs
open Go.Abs

variable {H:AHeap} {v u f:Value} {l m c:List Int} {es fs:List (Int × Int)} {K:Value→AHeap→Prop}

theorem isEdge_ok {n x:Int} (h:Edges H v es) (hl:es.length≤1048576) (k:∀ G,H.le G→K (.bool (decide (0≤x∧x≤(es.length:Int)-1))) G):AC Tryz.prog T0 56 [.agg ⟨[.int .i64 n,v]⟩,.int .i64 x] H K:=by
 apply F56.ac
 unfold F56.B2
 refine newK_f (all_iv (edges_one' h)) fun H1 l1 n1 o1=>?_
 unfold F56.B1
 refine ld1_own o1 rfl (lengthE_ok (h.le l1) (asI_mk ?_))
 rw [wrap_id (by omega) (by omega)]
 exact within_ok (asB_mk (k _ l1))
theorem IsC.get {es:List (Int × Int)} {c:List Int} (h:IsC es c) (i:Nat):0≤c.getD i 0∧c.getD i 0≤2:=by
 by_cases hi:i<c.length
 ·rw [getD_of hi];exact h.rng _ (List.getElem_mem hi)
 ·simp [List.getD,List.getElem?_eq_none (show c.length≤i by omega)]
end Go.Proofs
namespace Go.Proofs
open Go.Abs

variable {H G:AHeap} {v u f w:Value} {l m c:List Int} {es fs:List (Int × Int)} {K:Value→AHeap→Prop} {ls L:List (List Int)} {bm:Nat}

theorem sl_but2 {m0 b:Nat} {t:TypeId} {z:Nat} {cs:List Value} (h:Sl m0 H v t z cs) (hb:But b H G) (hv:bk v≠some b):Sl m0 G v t z cs:=by
 rcases h with h|⟨b',n,pre,post,h1,rfl,h3,h4⟩
 ·exact .inl h
 ·exact .inr ⟨b',n,pre,post,h1,rfl,hb.own h3 (fun e=>hv (by rw [e];rfl)),h4⟩
end Go.Proofs
namespace Go.Proofs
open Go.Abs

variable {H G G' Hb H0:AHeap} {v u f w:Value} {l m D:List Int} {es fs:List (Int × Int)} {K:Value→AHeap→Prop} {bs:Nat} {n:Int}

theorem sl_kb {t:TypeId} {z:Nat} {cs:List Value} (h:Sl (bs+1) H v t z cs) (k:Kb bs H G):Sl (bs+1) G v t z cs:=by
 rcases h with h|⟨b,n,pre,post,h1,h2,h3,h4⟩
 ·exact .inl h
 ·exact .inr ⟨b,n,pre,post,h1,h2,k.old b _ (by omega) h3,h4⟩
theorem sl_one {m0:Nat} {t:TypeId} {z:Nat} {cs:List Value} (h:Sl m0 H v t z cs):v.oneCell'=true:=by
 rcases h with ⟨_,rfl|⟨a,rfl⟩⟩|⟨b,n,pre,post,_,rfl,_⟩ <;> rfl
theorem LE_drop:∀ (l:List (Int × Int)),(LE l).drop 2=LE (l.drop 1)
 | []=>rfl
 | x::l=>rfl
theorem put_edge {m0:Nat} {r a b:Int} {K:AHeap→Prop} (f:Fresh m0 G v 28 2 (LE es)) (h0:0≤r) (h1:r<es.length) (k:∀ c G',m0≤c→bk v=some c→But c G G'→Fresh m0 G' v 28 2 (LE (es.set r.toNat (a,b)))→K G') :
 idxK v r 2 (fun bb oo=>stK G bb oo [.int .i64 a,.int .i64 b] K):=by
 have hlt:r.toNat<es.length:=by omega
 rcases f with ⟨h,_⟩|⟨c,q,hc,rfl,o,hq⟩
 ·have:=congrArg List.length h
  rw [LE_length,List.length_nil] at this;omega
 ·have hqe:q=es.length:=by rw [LE_length] at hq;omega
  subst hqe
  refine own_idx2 h0 h1 (stK_f o (by rw [LE_length];simp;omega) (by simp [Value.oneCell']) (LE_set es (a,b) hlt) fun G' b' o'=>k c G' hc rfl b' (.inr ⟨c,es.length,hc,rfl,o',by rw [LE_length,List.length_set]⟩))
structure BdS (Hb H:AHeap) (bs:Nat) (n:Int) (v:Value) (es:List (Int × Int)) (x5:Value) (fs:List (Int × Int)) (G:AHeap):Prop where
 kb:Kb bs H G
 s:Src Hb bs G
 o3:Own G H.length 31 [.int .i64 n,v]
 o4:Own G (H.length+1) 31 [.int .i64 0,.slice none 0 0]
 f:Fresh (H.length+2) G x5 28 2 (LE fs)
 lt:bs<H.length
theorem BdS.step {x5:Value} (h:BdS Hb H bs n v es x5 fs G) (k:Kb bs G G') (s:Src Hb bs G'):BdS Hb H bs n v es x5 fs G':=
 ⟨h.kb.trans k,s,k.own h.o3 (by have:=h.lt;omega),k.own h.o4 (by have:=h.lt;omega),fresh_kb h.f k (by have:=h.lt;omega),h.lt⟩
theorem BdS.le {x5:Value} (h:BdS Hb H bs n v es x5 fs G) (l:G.le G'):BdS Hb H bs n v es x5 fs G':=h.step (.of_le l) (h.s.le l)
theorem BdS.but {x5:Value} {c:Nat} {fs':List (Int × Int)} (h:BdS Hb H bs n v es x5 fs G) (b:But c G G') (hc:H.length+2≤c) (f:Fresh (H.length+2) G' x5 28 2 (LE fs')):BdS Hb H bs n v es x5 fs' G':=
 ⟨h.kb.but b (by omega),h.s.but b (by have:=h.lt;omega),b.own h.o3 (by omega),b.own h.o4 (by omega),f,h.lt⟩
theorem BdS.reread {x5:Value} (h:BdS Hb H bs n v es x5 fs G):ldI .i64 G H.length 0 (fun v7=>((Value.int .i64 v7)=(Value.int .i64 n))∧(G=G)):=ldI_own h.o3 rfl ⟨rfl,rfl⟩
def BadK (Hb H:AHeap) (bs:Nat) (v:Value) (K:Value→AHeap→Prop):Prop:=∀ v' n' es' G,Kb bs H G→Src Hb bs G→Sl (bs+1) G v' 28 2 (LE es')→(∀ b,bk v'=some b→bk v=some b∨H.length≤b)→es'.length≤2000→-2≤n'→n'≤202→K (.agg ⟨[.int .i64 n',v']⟩) G
theorem bad_put {x5:Value} {n':Int} {gs:List (Int × Int)} (k:BadK Hb H bs v K) (h:BdS Hb H bs n v es x5 fs G) (hs:Sl (bs+1) G w 28 2 (LE gs)) (hw:bk w≠some (H.length+1)) (hv:∀ b,bk w=some b→bk v=some b∨H.length≤b) (hl:gs.length≤2000) (h0:-2≤n') (h1:n'≤202) :
 stK G (H.length+1) 0 [.int .i64 n',w] (fun H7=>ldI .i64 H7 (H.length+1) 0 (fun v8=>ld1 H7 (H.length+1) 1 (fun v9=>K (.agg ⟨[.int .i64 v8,v9]⟩) H7))):=by
 have hbs:=h.lt
 exact draw_tail h.s h.kb (by omega) (by omega) h.o4 (sl_one hs) fun G9 b9 kb9 s9=>k w n' gs G9 kb9 s9 (sl_but2 hs b9 hw) hv hl h0 h1
theorem bad_B1 {x5 y:Value} {gs:List (Int × Int)} (k:BadK Hb H bs v K) (h:BdS Hb H bs n v es x5 fs G) (hs:Sl (H.length+2) G y 28 2 (LE gs)) (hl:gs.length≤2000) (h0:2≤n) (h1:n≤200):F152.B1 K H.length (H.length+1) y G:=by
 have hbs:=h.lt
 unfold F152.B1
 refine ldI_own h.o3 rfl (pif_t (sl_one hs) (bad_put k h (hs.less (by omega)) (fun e=>by have:=(hs.lt e).1;omega) (fun b e=>.inr (by have:=(hs.lt e).1;omega)) hl (by omega) (by omega)))
theorem l01Bad_ok (hs:Src Hb bs H) (h:Sl (bs+1) H v 28 2 (LE es)) (hg:Gd2 n es) (k:BadK Hb H bs v K) :
 AC Tryz.prog T0 152 [.pointer (some ⟨bs,0,none⟩),.agg ⟨[.int .i64 n,v]⟩] H K:=by
 have hbs:=hs.lt
 have gl:=hg.len;have gp:=hg.pos;have n0:=hg.lo;have n1:=hg.hi
 have hE:=sl_edges h
 apply F152.ac
 unfold F152.B15
 refine newK_f (all_iv (edges_one' hE)) fun H1 l1 m1 o1=>newK_f rfl fun H2 l2 m2 o2=>?_
 rw [m1] at o2 ⊢
 have o12:=o1.le l2
 have l02:=AHeap.le_trans l1 l2
 unfold F152.B14
 refine newK_f rfl fun H4 l4 n4 o4=>ld1_own (o12.le l4) rfl ?_
 have l04:=AHeap.le_trans l02 l4
 have e2:H2.length=H.length+2:=by rw [m2,m1]
 refine app_edges (m0:=H2.length) (es:=[]) (Fresh.sl (.inr ⟨_,0,Nat.le_refl _,rfl,o4,rfl⟩)) l4.1 (hE.le l04) gp (by simp;omega) fun x5 H5 k5 _ f5=>?_
 rw [List.nil_append] at f5
 have kp:=(Keep.of_le l4).trans k5
 have l05:H.le H5:=kp.le l02 l02.1
 unfold F152.B13
 have st5:BdS Hb H bs n v es x5 es H5:=⟨.of_le l05,hs.le l05,kp.own o12 o12.lt,kp.own o2 o2.lt,by rw [e2] at f5;exact f5,hbs⟩
 refine l01Next_ok st5.s fun r G1 k1 s1 r0 r1 _=>asI_mk ?_
 have st:=st5.step k1 s1
 have hvG:=sl_kb (h.le l05) k1
 have fin2:∀ G (r a b:Int),BdS Hb H bs n v es x5 es G→0≤r→r<es.length→idxK x5 r 2 (fun bb oo=>stK G bb oo [.int .i64 a,.int .i64 b] (fun H20=>F152.B1 K H.length (H.length+1) x5 H20)):=fun G r a b hS h0 h1=>
  put_edge hS.f h0 h1 fun c G' hc _ b' f'=>bad_B1 k (hS.but b' hc f') f'.sl (by rw [List.length_set];exact gl) n0 n1
 unfold F152.B12
 refine pif_cases (fun hb=>?_) fun hb=>?_
 ·unfold F152.B2
  refine ldI_own st.o3 rfl ?_
  rw [wrap_id (by omega) (by omega)]
  refine newK_f rfl fun G2 l2 n2 o2=>?_
  have hG1:=st.o4.lt
  refine l01Pick_ok (l:=[0,3,22,-2,n+2]) (st.le l2).s (own_ints (l:=[0,3,22,-2,n+2]) o2) (by simp) (by simp) (fun x hx=>by simp at hx;omega) (fun G3 k3=>own_ints (l:=[0,3,22,-2,n+2]) (k3.own o2 (by omega))) fun r' G3 k3 s3 hr=>asI_mk ?_
  have hr:-2≤r'∧r'≤202:=by simp at hr;omega
  have st3:=(st.le l2).step k3 s3
  refine pif_t (fresh_one st3.f) (bad_put k st3 (st3.f.sl.less (by omega)) (fun e=>by have:=(st3.f.bk_lt e).1;omega) (fun b e=>.inr (by have:=(st3.f.bk_lt e).1;omega)) gl hr.1 hr.2)
 unfold F152.B11
 refine pif_cases (fun hb=>?_) fun hb=>?_
 ·unfold F152.B3
  have hG1:=st.o4.lt
  have hlen:∀ {K:Nat→Prop},K es.length→lenK x5 K:=fun k'=>st.f.edges.len k'
  have pk:∀ {G2:AHeap} {b:Nat},Own G2 b 2 [.int .i64 (-1),.int .i64 n,.int .i64 0]→b≠bs→BdS Hb H bs n v es x5 es G2→∀ (Q:Value→AHeap→Prop),(∀ r' G3,BdS Hb H bs n v es x5 es G3→Q (.int .i64 r') G3)→AC Tryz.prog T0 159 [.pointer (some ⟨bs,0,none⟩),.slice (some ⟨b,0,none⟩) 3 (3+1)] G2 Q:=fun {G2 b} o hb st2 Q hQ=>by
   refine l01Pick_ok (l:=[-1,n,0]) st2.s (own_ints (l:=[-1,n,0]) o) (by simp) (by simp) (fun x hx=>by simp at hx;omega) (fun G3 k3=>own_ints (l:=[-1,n,0]) (k3.own o hb)) fun r' G3 k3 s3 hr=>hQ r' G3 (st2.step k3 s3)
  refine hlen (ldI_own st.o3 rfl (ldI_own st.o3 rfl ⟨?_,?_⟩))
  ·refine l01Next_ok st.s fun q G2 k2 s2 q0 q1 _=>asI_mk ?_
   have st2:=st.step k2 s2
   have hq:=q1 (by omega)
   refine ⟨st2.reread,st2.reread,⟨?_,?_⟩⟩
   ·refine l01Next_ok st2.s fun a G3 k3 s3 a0 a1 _=>asI_mk ?_
    have st3:=st2.step k3 s3
    refine ⟨st3.reread,newK_f rfl fun G4 l4 n4 o4=>pk o4 (by have:=st3.o4.lt;omega) (st3.le l4) _ fun r' G5 st5=>asI_mk (fin2 G5 q a r' st5 q0 hq)⟩
   ·refine newK_f rfl fun G4 l4 n4 o4=>?_
    have st4:=st2.le l4
    refine l01Next_ok st4.s fun a G3 k3 s3 a0 a1 _=>asI_mk ?_
    have st3:=st4.step k3 s3
    have hne:G2.length≠bs:=by have:=st2.o4.lt;omega
    exact ⟨st3.reread,pk (k3.own o4 hne) hne st3 _ fun r' G5 st5=>asI_mk (fin2 G5 q a r' st5 q0 hq)⟩
  ·refine newK_f rfl fun G4 l4 n4 o4=>?_
   have st4:=st.le l4
   have hne:G1.length≠bs:=by have:=st.o4.lt;omega
   refine l01Next_ok st4.s fun q G2 k2 s2 q0 q1 _=>asI_mk ?_
   have st2:=st4.step k2 s2
   have hq:=q1 (by omega)
   refine ⟨st2.reread,st2.reread,l01Next_ok st2.s fun a G3 k3 s3 a0 a1 _=>asI_mk ?_⟩
   have st3:=st2.step k3 s3
   exact ⟨st3.reread,pk (k3.own (k2.own o4 hne) hne) hne st3 _ fun r' G5 st5=>asI_mk (fin2 G5 q a r' st5 q0 hq)⟩
 unfold F152.B10
 refine pif_cases (fun hb=>?_) fun hb=>?_
 ·have eG:=st.f.edges
  unfold F152.B6
  obtain ⟨bb,oo,hk,q1,q2⟩:=eG.idx (show (0:Int)≤0 by omega) (by omega)
  refine hk _ (ldI_mk q1 (ldI_mk q2 (newK_f rfl fun G2 l2 n2 o2=>stK_f (new:=[.int .i64 (es.getD 0 (0,0)).1,.int .i64 (es.getD 0 (0,0)).2]) o2 (by simp) (by simp [Value.oneCell']) rfl fun G3 b3 o3=>?_)))
  have l3:G1.le G3:=b3.le l2 (Nat.le_refl _)
  have st3:=st.le l3
  have hlen3:∀ {K:Nat→Prop},K es.length→lenK x5 K:=fun k'=>st.f.edges.len k'
  have hx6:=st.o4.lt
  unfold F152.B5
  refine hlen3 ?_
  rw [wrap_id (by omega) (by omega)]
  obtain ⟨bb,oo,hk,q1,q2⟩:=st3.f.edges.idx (show (0:Int)≤(es.length:Int)-1 by omega) (by omega)
  refine hk _ (ldI_mk q1 (ldI_mk q2 (put_edge st3.f (by omega) (by omega) fun c G4 hc hcb b4 f4=>?_)))
  have st4:=st3.but b4 hc f4
  have o6:=b4.own o3 (by have:=(st.f.bk_lt hcb).2;omega)
  ·unfold F152.B4
   refine f4.edges.len (ldI_own o6 rfl (ldI_own o6 rfl ?_))
   rw [List.length_set,wrap_id (by omega) (by omega)]
   exact put_edge f4 (by omega) (by rw [List.length_set];omega) fun c G' hc _ b' f'=>bad_B1 k (st4.but b' hc f') f'.sl (by rw [List.length_set,List.length_set];exact gl) n0 n1
 unfold F152.B9
 refine pif_cases (fun hb=>?_) fun hb=>?_
 ·unfold F152.B7
  refine st.f.sl.drop (i:=1) (n:=es.length) (LE_length es) (by decide) gp gp fun v' h'=>?_
  rw [Nat.one_mul,LE_drop] at h'
  exact bad_B1 k st h' (by rw [List.length_drop];omega) n0 n1
 ·unfold F152.B8
  refine ldI_own st.o3 rfl (ld1_own st.o3 rfl (bad_put k st hvG (fun e=>by have:=(h.lt e).2;omega) (fun b e=>.inl e) gl (by omega) (by omega)))
theorem l01Spoil_ok (hs:Src Hb bs H) (k:∀ v' n' es' G,Kb bs H G→Src Hb bs G→Sl H.length G v' 28 2 (LE es')→es'.length≤2000→-2≤n'→n'≤202→K (.agg ⟨[.int .i64 n',v']⟩) G):AC Tryz.prog T0 94 [.pointer (some ⟨bs,0,none⟩)] H K:=by
 have hbs:=hs.lt
 apply F94.ac
 unfold F94.B2
 refine newK_f rfl fun H1 l1 n1 o1=>?_
 unfold F94.B1
 refine l01Draw_ok (hs.le l1) fun v1 n1' es1 G1 k1 s1 f1 g1=>agg2_mk (asI_mk ?_)
 have hk1:=k1.len
 refine l01Bad_ok s1 (f1.sl.less (by omega)) g1 fun v2 n2 es2 G2 k2 s2 h2 hv c2 a0 a1=>agg2_mk (asI_mk ?_)
 have kb2:=((Kb.of_le l1).trans k1).trans k2
 have hne:∀ b,bk v2=some b→H1.length≤b:=fun b hb=>by
  rcases hv b hb with e|e
  ·exact (f1.bk_lt e).1
  ·omega
 refine draw_tail s2 kb2 hbs (Nat.le_refl _) (k2.own (k1.own o1 (by omega)) (by omega)) (sl_one h2) fun G9 b9 kb9 s9=>?_
 have h9:=sl_but2 h2 b9 (fun e=>by have:=hne _ e;omega)
 refine k v2 n2 es2 G9 kb9 s9 ?_ c2 a0 a1
 rcases h9 with h|⟨b,q,pre,post,q1,rfl,q3,q4⟩
 ·exact .inl h
 ·exact .inr ⟨b,q,pre,post,by have:=hne b rfl;omega,rfl,q3,q4⟩
end Go.Proofs
namespace Go.Proofs
open Go.Abs

variable {H G G' Hb H0:AHeap} {v u f w:Value} {l m D:List Int} {es fs:List (Int × Int)} {K:Value→AHeap→Prop} {bs:Nat} {n:Int}

theorem put_graph {x2 m0:Nat} (o:Own G x2 31 [.int .i64 0,.slice none 0 0]) (l:H.le G) (hx:H.length≤x2) (hs:Sl m0 G v 28 2 (LE es)) (hm:x2<m0) (k:∀ G',But x2 G G'→H.le G'→Sl m0 G' v 28 2 (LE es)→K (.agg ⟨[.int .i64 n,v]⟩) G') :
 stK G x2 0 [.int .i64 n,v] (fun H7=>ldI .i64 H7 x2 0 (fun v8=>ld1 H7 x2 1 (fun v9=>K (.agg ⟨[.int .i64 v8,v9]⟩) H7))):=by
 refine stK_f (new:=[.int .i64 n,v]) o (by simp) (mem_iv (sl_one hs)) rfl fun G5 b5 o5=>ldI_own o5 rfl (ld1_own o5 rfl ?_)
 exact k G5 b5 (b5.le l hx) (hs.but b5 hm)
def DrwK (H:AHeap) (K:Value→AHeap→Prop):Prop:=∀ v n es G,H.le G→Sl H.length G v 28 2 (LE es)→es.length≤2000→K (.agg ⟨[.int .i64 n,v]⟩) G
end Go.Proofs
namespace Go.Proofs
open Go.Abs

variable {H:AHeap} {v u f:Value} {l m c:List Int} {es fs:List (Int × Int)} {K:Value→AHeap→Prop}

theorem and32 {y:Int} (h0:0≤y) (h1:y<4294967296):IntKind.u64.wrap (((BitVec.ofInt 64 y&&&BitVec.ofInt 64 4294967295).toNat:Nat):Int)=y:=by
 obtain ⟨n,rfl⟩:=Int.eq_ofNat_of_zero_le h0
 have h:(BitVec.ofInt 64 ((n:Nat):Int)&&&BitVec.ofInt 64 4294967295).toNat=n:=by
  rw [BitVec.toNat_and,show (BitVec.ofInt 64 4294967295).toNat=2^32-1 from by decide,Nat.and_two_pow_sub_one_eq_mod]
  simp only [BitVec.ofInt_natCast,BitVec.toNat_ofNat]
  omega
 rw [h]
 simp only [IntKind.wrap,IntKind.bits,IntKind.signed,Bool.false_and,Bool.false_eq_true,if_false]
 omega
theorem mul64_ok {y:Int} (h0:0≤y) (h1:y<4294967296) (k:K (.tuple ⟨[.int .u64 0,.int .u64 y]⟩) H):AC Tryz.prog T0 225 [.int .u64 1,.int .u64 y] H K:=by
 apply F225.ac
 have e0:Int.fdiv y (2^(min (Int.toNat 32) 64))=0:=by
  rw [show (2:Int)^(min (Int.toNat 32) 64)=4294967296 from by decide,Int.fdiv_eq_ediv_of_nonneg _ (by decide)];omega
 have w:∀ z:Int,0≤z→z<4294967296→IntKind.u64.wrap z=z:=by
  intro z a b;simp only [IntKind.wrap,IntKind.bits,IntKind.signed,Bool.false_and,Bool.false_eq_true,if_false];omega
 unfold F225.B12 F225.B11 F225.B10
 rw [and32 (by decide) (by decide)]
 refine ⟨by decide,?_⟩
 rw [show Int.fdiv 1 (2^(min (Int.toNat 32) 64))=0 from by decide]
 unfold F225.B9 F225.B8
 rw [and32 h0 h1]
 refine ⟨by decide,?_⟩
 rw [e0]
 unfold F225.B7 F225.B6
 refine ⟨by decide,?_⟩
 rw [Int.one_mul,w y h0 h1,e0,Int.zero_mul,w 0 (by decide) (by decide),show (0:Int)+0=0 from rfl,w 0 (by decide) (by decide)]
 unfold F225.B5 F225.B4
 rw [and32 (by decide) (by decide)]
 refine ⟨by decide,?_⟩
 rw [show Int.fdiv 0 (2^(min (Int.toNat 32) 64))=0 from by decide]
 unfold F225.B3 F225.B2
 refine ⟨by decide,?_⟩
 simp only [show (1:Int)*0=0 from rfl,show (0:Int)*0=0 from rfl,show (0:Int)+0=0 from rfl,w 0 (by decide) (by decide),show Int.fdiv 0 (2^(min (Int.toNat 32) 64))=0 from by decide]
 unfold F225.B1
 rw [Int.one_mul,w y h0 h1]
 exact k
theorem mul_ok {y:Int} (h0:0≤y) (h1:y<4294967296) (k:K (.tuple ⟨[.int .u64 0,.int .u64 y]⟩) H):AC Tryz.prog T0 207 [.int .u64 1,.int .u64 y] H K:=by
 apply F207.ac
 unfold F207.B3 F207.B2
 refine mul64_ok h0 h1 ?_
 exact k
end Go.Proofs
namespace Go.Proofs
open Go.Abs

variable {H:AHeap} {l s:List Int}

theorem cp_own {b o n c2 sb so m c:Nat} {K:Nat→AHeap→Prop} (hb:Own H b 2 (LI l)) (hs:Own H sb 2 (LI s)) (hm:0<m) (hn:0<n) (h1:so+m≤s.length) (h2:o+n≤l.length)
 (k:∀ G,But b H G→Own G b 2 (LI (l.take o++(s.drop so).take (Nat.min m n)++l.drop (o+Nat.min m n)))→K (Nat.min m n) G) :
 cpK T0 2 H (.slice (some ⟨b,o,none⟩) n c2) (.slice (some ⟨sb,so,none⟩) m c) K:=by
 have hq:Nat.min m n≤m∧Nat.min m n≤n∧0<Nat.min m n:=⟨Nat.min_le_left _ _,Nat.min_le_right _ _,Nat.lt_min.2 ⟨hm,hn⟩⟩
 have hl:(LI ((s.drop so).take (Nat.min m n))).length=Nat.min m n:=by simp only [LI,List.length_map,List.length_take,List.length_drop];omega
 refine .inr ⟨sb,so,m,c,b,o,n,c2,LI l,LI ((s.drop so).take (Nat.min m n)),rfl,rfl,hb,hq.2.2,?_,?_,?_,k _ But.set ?_⟩
 ·rw [hl];exact (Nat.mul_one _).symm
 ·intro i u hu
  rw [hs.cell]
  have hi:=lt_of_get hu
  rw [hl] at hi
  simp only [LI,List.getElem?_map] at hu ⊢
  rw [List.getElem?_take_of_lt hi,List.getElem?_drop] at hu
  exact hu
 ·rw [hl];simp only [LI,List.length_map];omega
 ·rw [hl]
  have:b<H.length:=lt_of_get hb
  simp only [Own,LI,List.map_append,List.map_take,List.map_drop]
  rw [List.getElem?_set_self this]
end Go.Proofs
namespace Go.Proofs
open Go.Abs

variable {H:AHeap} {l s:List Int}

theorem repeat_ok {b1:Nat} {t n:Int} {K:Value→AHeap→Prop} (o:Own H b1 2 (LI [t])) (h0:0≤n) (h1:n≤1000000)
 (k:∀ G,H.le G→Own G H.length 2 (LI (List.replicate n.toNat t))→K (.slice (some ⟨H.length,0,none⟩) n.toNat (n.toNat+1)) G) :
 AC Tryz.prog T0 177 [.slice (some ⟨b1,0,none⟩) 1 (1+1),.int .i64 n] H K:=by
 obtain ⟨N,rfl⟩:=Int.eq_ofNat_of_zero_le h0
 have hu:IntKind.u64.wrap ((N:Nat):Int)=N:=by simp only [IntKind.wrap,IntKind.bits,IntKind.signed,Bool.false_and,Bool.false_eq_true,if_false];omega
 have hb1:b1<H.length:=lt_of_get o
 apply F177.ac
 unfold F177.B10 F177.B9
 refine pif_f (by simp) ?_
 unfold F177.B8
 refine lenK_of ?_
 rw [hu,show IntKind.u64.wrap ((1:Nat):Int)=1 from by decide]
 refine mul_ok (by omega) (by omega) ?_
 show F177.B7 K _ 0 N H
 unfold F177.B7
 refine pif_f (by decide) (pif_f (by simp;omega) ?_)
 unfold F177.B6
 rw [wrap_id (by omega) (by omega)]
 refine mkR_int (by omega) (by omega) (by decide) fun H2 l2 n2 o2=>?_
 rw [rep_one,Int.toNat_natCast] at o2
 simp only [Int.toNat_natCast] at k ⊢
 unfold F177.B5
 have main:∀ (i:Nat) G,i≤N→(0<i∨N=0)→H.le G→Own G H.length 2 (LI (List.replicate i t++List.replicate (N-i) 0))→F177.L2 K (.slice (some ⟨H.length,0,none⟩) N (N+1)) (i:Int) G:=by
  intro i G hi hp hl ho
  unfold F177.L2
  refine ⟨fun x7 x8 G=>x7=.slice (some ⟨H.length,0,none⟩) N (N+1)∧∃ i:Nat,x8=i∧i≤N∧(0<i∨N=0)∧H.le G∧Own G H.length 2 (LI (List.replicate i t++List.replicate (N-i) 0)),fun _ x8 _=>N-x8.toNat,⟨rfl,i,rfl,hi,hp,hl,ho⟩,?_⟩
  rintro x7 x8 G ⟨rfl,i,rfl,hi,hp,hl,ho⟩
  unfold F177.B4
  refine lenK_of ?_
  by_cases h:i<N
  ·refine pif_t (by simp;omega) ?_
   unfold F177.B3
   refine ⟨⟨_,_,ho,by simp [LI];omega⟩,by omega,by omega,by omega,?_⟩
   refine ⟨⟨_,_,ho,by simp [LI];omega⟩,by omega,by omega,by omega,?_⟩
   simp only [Int.toNat_natCast,Nat.zero_add,Nat.mul_one,Int.toNat_zero,Nat.zero_mul,Nat.sub_zero]
   refine cp_own ho ho (by omega) (by omega) (by first|(simp;done)|(simp;omega)) (by first|(simp;done)|(simp;omega)) fun G2 b2 o2=>?_
   have hq:Nat.min i (N-i)≤i∧Nat.min i (N-i)≤N-i∧0<Nat.min i (N-i):=⟨Nat.min_le_left _ _,Nat.min_le_right _ _,Nat.lt_min.2 ⟨by omega,by omega⟩⟩
   generalize Nat.min i (N-i)=q at hq o2 ⊢
   rw [wrap_id (by omega) (by omega)]
   refine ⟨⟨by first|trivial|rfl,i+q,by omega,by omega,by omega,b2.le hl (Nat.le_refl _),?_⟩,by omega⟩
   have e:(List.replicate i t++List.replicate (N-i) 0).take i++((List.replicate i t++List.replicate (N-i) 0).drop 0).take q++(List.replicate i t++List.replicate (N-i) 0).drop (i+q)=List.replicate (i+q) t++List.replicate (N-(i+q)) 0:=by
    rw [List.take_left' (by simp),List.drop_zero,List.take_append_of_le_length (by simp;omega),List.take_replicate,Nat.min_eq_left hq.1,List.replicate_append_replicate,List.drop_append,List.drop_eq_nil_of_le (by simp),List.nil_append,List.drop_replicate,List.length_replicate]
    congr 2;omega
   rw [e] at o2
   exact o2
  ·refine pif_f (by simp;omega) ?_
   unfold F177.B1
   obtain rfl:i=N:=by omega
   exact k _ hl (by simpa using ho)
 by_cases hN:N=0
 ·subst hN
  exact .inl ⟨_,_,_,_,_,_,rfl,rfl,.inr rfl,main 0 H2 (by omega) (.inr rfl) l2 (by simpa using o2)⟩
 ·refine cp_own o2 (l2.2 _ _ o) (by omega) (by omega) (by simp) (by simp) fun G b2 o3=>?_
  have hq:Nat.min 1 N=1:=Nat.min_eq_left (by omega)
  rw [hq] at o3 ⊢
  refine main 1 G (by omega) (.inl (by omega)) (b2.le l2 (Nat.le_refl _)) ?_
  simpa using o3
end Go.Proofs
namespace Go.Proofs
open Go.Abs

variable {H:AHeap} {u:Value} {fs:List (Int × Int)} {K:Value→AHeap→Prop}

end Go.Proofs
namespace Go.Proofs
open Go.Abs

variable {H G:AHeap} {v u f:Value} {l m c D:List Int} {es fs:List (Int × Int)} {K:Value→AHeap→Prop}

def farB (D:List Int) (w:Nat):Bool:=decide (w<D.length∧0≤D.getD w 0)
theorem farB_lt {w:Nat} (h:farB D w=true):w<D.length:=(of_decide_eq_true h).1
theorem farB_iff {w:Nat} (h:w<D.length):farB D w=true↔0≤D.getD w 0:=by unfold farB;rw [decide_eq_true_iff];exact ⟨fun h=>h.2,fun h'=>⟨h,h'⟩⟩
theorem farB_set {y:Nat} {d:Int} (h:y<D.length) (hd:0≤d):farB (D.set y d)=insB (farB D) y:=by
 funext j
 unfold farB insB
 rw [List.length_set]
 by_cases e:y=j
 ·subst e;rw [getD_set_self h];simp [h,hd]
 ·rw [getD_set_ne e];simp [e]
structure FarOk (n:Nat) (D:List Int):Prop where
 len:D.length=n
 rng:∀ w,w<n→-1≤D.getD w 0∧D.getD w 0+unseen (farB D) n≤21
theorem FarOk.set {n x y:Nat} (h:FarOk n D) (hx:farB D x=true) (hy:y<n) (hf:farB D y=false):FarOk n (D.set y (D.getD x 0+1)):=by
 have hl:=h.len
 have hxl:=farB_lt hx
 have hx0:=(farB_iff hxl).1 hx
 have hu:=unseen_ins (S:=farB D) hy hf
 refine ⟨by simp [hl],fun w hw=>?_⟩
 rw [farB_set (by omega) (by omega)]
 by_cases e:y=w
 ·subst e
  rw [getD_set_self (by omega)]
  have:=h.rng x (by omega)
  omega
 ·rw [getD_set_ne e]
  have:=h.rng w hw
  omega
structure InV (adj:Nat→Nat→Prop) (a x n M:Nat) (D':Nat→Prop) (S:Nat→Bool) (R:List Nat):Prop where
 ex:Ex adj a S (x::R)
 bnd:∀ y,S y=true→y<n
 mu:2*unseen S n+(R.length+1)≤M
 past:∀ j,D' j→S j=true
section
variable {adj:Nat→Nat→Prop} {a x n M:Nat} {D' D2:Nat→Prop} {S:Nat→Bool} {R:List Nat}
theorem InV.more (h:InV adj a x n M D' S R) (hd:∀ j,D2 j→D' j∨S j=true):InV adj a x n M D2 S R:=
 ⟨h.ex,h.bnd,h.mu,fun j hj=>(hd j hj).elim (h.past j) id⟩
theorem InV.push {y:Nat} (h:InV adj a x n M D' S R) (hy:adj x y) (hyn:y<n) (hn:S y=false) (hd:∀ j,D2 j→D' j∨j=y):InV adj a x n M D2 (insB S y) (R++[y]):=by
 have hx:S x=true:=h.ex.q x (by simp)
 refine ⟨h.ex.push hx hy,fun z hz=>?_,?_,fun j hj=>?_⟩
 ·by_cases e':z=y
  ·rw [e'];exact hyn
  ·exact h.bnd z (insB_ne hz e')
 ·have:=unseen_ins (n:=n) hyn hn
  have:=h.mu
  simp;omega
 ·rcases hd j hj with hj|rfl
  ·exact insB_of (h.past j hj)
  ·exact insB_self _ _
theorem InV.pop (h:InV adj a x n M D' S R) (hd:∀ j,adj x j→D' j):Ex adj a S R∧2*unseen S n+R.length<M:=
 ⟨h.ex.pop fun y hy=>h.past y (hd y hy),by have:=h.mu;omega⟩
end
def PastV (es:List (Int × Int)) (p:Nat→Bool) (x t:Nat) (j:Nat):Prop:=∃ t',t'<t∧t'<(atL es x).length∧p ((atL es x).getD t' 0).toNat=false∧(j:Int)=(es.getD ((atL es x).getD t' 0).toNat (0,0)).1+(es.getD ((atL es x).getD t' 0).toNat (0,0)).2-x
theorem PastV.step {p:Nat→Bool} {x t j i:Nat} (h:PastV es p x (t+1) j) (hi:(atL es x).getD t 0=i):PastV es p x t j∨(p i=false∧(j:Int)=(es.getD i (0,0)).1+(es.getD i (0,0)).2-x):=by
 obtain ⟨t',h1,h2,h3,h4⟩:=h
 by_cases e:t'=t
 ·subst e;rw [hi,Int.toNat_natCast] at h3 h4;exact .inr ⟨h3,h4⟩
 ·exact .inl ⟨t',by omega,h2,h3,h4⟩
theorem PastV.fin {p:Nat→Bool} {x j:Nat} (h:vAdj (restL es p) x j):PastV es p x (atL es x).length j:=by
 have:∃ i,i<es.length∧p i=false∧on (es.getD i (0,0)) x=true∧(j:Int)=(es.getD i (0,0)).1+(es.getD i (0,0)).2-x:=by
  rcases h with h|h
  ·obtain ⟨i,h1,h2,h3⟩:=mem_restL.1 h
   exact ⟨i,h1,h2,by rw [← h3];unfold on;simp,by rw [← h3];simp only;omega⟩
  ·obtain ⟨i,h1,h2,h3⟩:=mem_restL.1 h
   exact ⟨i,h1,h2,by rw [← h3];unfold on;simp,by rw [← h3];simp only;omega⟩
 obtain ⟨i,h1,h2,h3,h4⟩:=this
 have hm:(i:Int)∈atL es x:=mem_atL.2 ⟨i,rfl,h1,h3⟩
 obtain ⟨t,ht,hte⟩:=List.getElem_of_mem hm
 have e:(atL es x).getD t 0=i:=by rw [getD_of ht,hte]
 exact ⟨t,ht,ht,by rw [e];exact h2,by rw [e];exact h4⟩
theorem adj_of {p:Nat→Bool} {x y i:Nat} (h1:i<es.length) (h2:p i=false) (h3:on (es.getD i (0,0)) x=true) (h4:(y:Int)=(es.getD i (0,0)).1+(es.getD i (0,0)).2-x):vAdj (restL es p) x y:=by
 unfold on at h3
 simp only [Bool.or_eq_true,beq_iff_eq] at h3
 rcases h3 with h|h
 ·refine .inl (mem_restL.2 ⟨i,h1,h2,?_⟩)
  rw [← h,show (y:Int)=(es.getD i (0,0)).2 by omega]
 ·refine .inr (mem_restL.2 ⟨i,h1,h2,?_⟩)
  rw [← h,show (y:Int)=(es.getD i (0,0)).1 by omega]
def FarQ (n m0 b0:Nat) (X:(Nat→Bool)→List Nat→Prop) (x7 q:Value) (G:AHeap):Prop:=x7=.slice (some ⟨b0,0,none⟩) n (n+1)∧∃ (D:List Int) (Q:List Nat),Own G b0 2 (LI D)∧FarOk n D∧X (farB D) Q∧Sl m0 G q 2 1 (LI (NI Q))
def rowFar (G:AHeap) (b:Nat):Nat→Bool:=
 match G[b]? with
 | some (some (.row cs _ _))=>farB (cs.map fun|.int _ x=>x|_=>0)
 | _=>fun _=>false
theorem rowFar_own {b:Nat} {t:TypeId} (h:Own G b t (LI D)):rowFar G b=farB D:=by
 unfold rowFar;rw [h];simp only [LI,List.map_map]
 congr 1
 conv=>rhs;rw [← List.map_id D]
 rfl
theorem distances_ok {n:Int} {a s:Nat} (h:Edges H v es) (hg:IsG n es) (hs:s<2^64) (ha:a<n.toNat)
 (k:∀ b0 D G,H.le G→H.length≤b0→Own G b0 2 (LI D)→D.length=n.toNat→(∀ w,w<n.toNat→(0≤D.getD w 0↔Rch (vAdj (restL es fun j=>s.testBit j)) a w))→K (.slice (some ⟨b0,0,none⟩) n.toNat (n.toNat+1)) G) :
 AC Tryz.prog T0 206 [.agg ⟨[.int .i64 n,v]⟩,.int .i64 (a:Nat),.int .u64 (s:Nat)] H K:=by
 have n0:=hg.ed.lo;have n1:=hg.ed.hi
 have h30:es.length≤30:=by have:=hg.ed.len;omega
 apply F206.ac
 unfold F206.B17
 refine newK_f (all_iv (edges_one' h)) fun H1 l1 _ o1=>?_
 unfold F206.B16
 refine newK_f rfl fun H2 l2 _ o2=>ldI_own (o1.le l2) rfl (repeat_ok (t:=-1) (by simpa using o2) (by omega) (by omega) fun H3 l3 o3=>?_)
 have l13:=AHeap.le_trans l2 l3
 obtain ⟨b0,hb0⟩:∃ b0,b0=H2.length:=⟨_,rfl⟩
 have hb0l:H1.length≤b0:=by rw [hb0];exact l2.1
 rw [← hb0] at o3
 rw [← hb0]
 clear o2 hb0
 unfold F206.B15
 refine own_idx (by omega) (by omega) (stK_1 o3 (by simp;omega) rfl fun H4 b4 o4=>?_)
 rw [Int.toNat_natCast,show LI (List.replicate n.toNat (-1))=(List.replicate n.toNat (-1)).map (Value.int .i64) from rfl,← List.map_set] at o4
 have o4:Own H4 b0 2 (LI ((List.replicate n.toNat (-1)).set a 0)):=o4
 have hb03:b0<H4.length:=o4.lt
 have l14:H1.le H4:=b4.le l13 hb0l
 unfold F206.B14
 refine newK_f rfl fun H5 l5 _ o5=>?_
 obtain ⟨p,hp⟩:∃ p:Nat→Bool,p=fun j=>s.testBit j:=⟨_,rfl⟩
 rw [← hp] at k
 have D0:∀ w,w<n.toNat→((List.replicate n.toNat (-1)).set a (0:Int)).getD w 0=if a=w then 0 else -1:=by
  intro w hw
  by_cases e:a=w
  ·subst e;rw [if_pos rfl];exact getD_set_self (by simp;omega)
  ·rw [if_neg e,getD_set_ne e];simp [List.getD,hw]
 have F0:∀ w,farB ((List.replicate n.toNat (-1)).set a (0:Int)) w=true↔w=a:=by
  intro w
  by_cases hw:w<n.toNat
  ·rw [farB_iff (by simp;omega),D0 w hw]
   by_cases e:a=w
   ·subst e;simp
   ·rw [if_neg e];exact ⟨fun h=>absurd h (by decide),fun h=>absurd h.symm e⟩
  ·exact ⟨fun h=>absurd (farB_lt h) (by simp;omega),fun h=>by omega⟩
 unfold F206.L2
 refine ⟨fun x2 x3 x7 x8 G=>((s:Nat):Int)=x2∧H.length=x3∧H1.le G∧H4.length≤G.length∧FarQ n.toNat H4.length b0 (fun S Q=>Ex (vAdj (restL es p)) a S Q∧(∀ y,S y=true→y<n.toNat)∧2*unseen S n.toNat+Q.length≤41) x7 x8 G,
  fun _ _ _ x8 G=>2*unseen (rowFar G b0) n.toNat+lenV x8,⟨rfl,rfl,AHeap.le_trans l14 l5,l5.1,rfl,_,[a],o4.le l5,⟨by simp,fun w hw=>?_⟩,⟨.init F0,fun y hy=>?_,?_⟩,Fresh.sl (.inr ⟨_,1,Nat.le_refl _,rfl,o5,rfl⟩)⟩,?_⟩
 ·rw [D0 w hw]
  have:=unseen_le (farB ((List.replicate n.toNat (-1)).set a (0:Int))) n.toNat
  split <;> omega
 ·rw [(F0 y).1 hy];exact ha
 ·have:=unseen_le (farB ((List.replicate n.toNat (-1)).set a (0:Int))) n.toNat
  simp;omega
 clear o5 l5 D0 F0 o4 o3 b4
 rintro x2 x3 x7 x8 G ⟨rfl,rfl,hG,hM4,rfl,D,Q,oD,hD,⟨hE,hB,hU⟩,hQ⟩
 have oG:=o1.le hG
 unfold F206.B13
 refine hQ.len (by decide) (n:=Q.length) (by simp) (pif_cases (fun hb=>?_) fun hb=>?_)
 ·have hpos:0<Q.length:=by have:=of_decide_eq_true hb;omega
  cases Q with
  | nil=>simp at hpos
  | cons x Q=>
  have hxl:x<n.toNat:=hB x (hE.q x (by simp))
  have hmu:2*unseen (rowFar G b0) n.toNat+lenV x8=2*unseen (farB D) n.toNat+(Q.length+1):=by
   rw [Sl_lenV hQ,rowFar_own oD];simp
  have hU:2*unseen (farB D) n.toNat+(Q.length+1)≤41:=hU
  obtain ⟨M,hM⟩:∃ M,M=2*unseen (farB D) n.toNat+(Q.length+1):=⟨_,rfl⟩
  unfold F206.B12
  refine ldI_own oG rfl (ld1_own oG rfl (hQ.ints.rd (by decide) (by simp) ?_))
  rw [show (NI (x::Q)).getD (0:Int).toNat 0=(x:Int) from rfl]
  have lG:=AHeap.le_trans l1 hG
  refine at_ok (h.le lG) (by omega) fun w G2 hG2 hF=>?_
  have h3:=hg.three (v:=(x:Int)) (by omega) (by omega)
  refine hF.len (by decide) (n:=3) (by rw [List.length_map,h3]) ?_
  have lG2:=AHeap.le_trans hG hG2
  have hbG:b0<G.length:=oD.lt
  unfold F206.L4
  refine ⟨fun x2 x3 x7 x8 x30 x31 x32 G=>((s:Nat):Int)=x2∧H.length=x3∧w=x30∧3=x31∧H1.le G∧H4.length≤G.length∧Sl H4.length G w 2 1 (LI (atL es x))∧(∀ b,bk w=some b→bk x8≠some b)∧
   ∃ t:Nat,x32=t∧t≤3∧FarQ n.toNat H4.length b0 (fun S Q'=>∃ R,Q'=x::R∧InV (vAdj (restL es p)) a x n.toNat M (PastV es p x t) S R) x7 x8 G,
   fun _ _ _ _ _ _ x32 _=>3-x32.toNat,⟨rfl,rfl,rfl,rfl,lG2,Nat.le_trans hM4 hG2.1,hF.less hM4,(fun b hb hb'=>by have:=(hF.lt hb).1;have:=(hQ.lt hb').2;omega),0,rfl,by omega,rfl,D,x::Q,oD.le hG2,hD,⟨Q,rfl,hE,hB,by omega,fun j ⟨t',h,_⟩=>absurd h (by omega)⟩,hQ.le hG2⟩,?_⟩
  clear hQ hE hB hF hG2 lG2 oG lG hG hM4 hbG oD hD
  rintro x2 x3 x7 x8' x30 x31 x32 G3 ⟨rfl,rfl,rfl,rfl,hG,hM4,hW,hA,t,rfl,ht,rfl,D3,_,oD,hD,⟨R,rfl,hX⟩,hQ⟩
  have lG:=AHeap.le_trans l1 hG
  have oG:=o1.le hG
  unfold F206.B11
  refine pif_cases (fun hb=>?_) fun hb=>?_
  ·have ht3:t<3:=by have:=of_decide_eq_true hb;omega
   obtain ⟨i,hi1,hi2,hi3⟩:=at_get (es:=es) (w:=(x:Int)) (t:=t) (by omega)
   obtain ⟨d1,d2,d3,d4,d5⟩:=hg.ed.ends es[i] (List.getElem_mem hi2)
   rw [← getD_of (d:=(0,0)) hi2] at d1 d2 d3 d4 d5
   obtain ⟨y,hy⟩:∃ y:Nat,(es.getD i (0,0)).1+(es.getD i (0,0)).2-(x:Int)=y:=⟨((es.getD i (0,0)).1+(es.getD i (0,0)).2-(x:Int)).toNat,by rcases on_oth hi3 with e|e <;> omega⟩
   have hyn:y<n.toNat:=by rcases on_oth hi3 with e|e <;> omega
   have hstep:∀ j,PastV es p x (t+1) j→PastV es p x t j∨(p i=false∧j=y):=fun j hj=>(PastV.step hj hi1).imp id fun ⟨h1,h2⟩=>⟨h1,by omega⟩
   unfold F206.B10
   refine hW.ints.rd (by omega) (by omega) ?_
   simp only [Int.toNat_natCast,hi1]
   unfold F206.B9
   obtain ⟨bb,oo,hk,c1,c2⟩:=(h.le lG).idx (show (0:Int)≤i by omega) (by omega)
   simp only [Int.toNat_natCast] at c1 c2
   refine ld1_own oG rfl (hk _ (ldI_mk c1 (ldI_mk c2 (hQ.ints.rd (by decide) (by simp) ?_))))
   rw [show (NI (x::R)).getD (0:Int).toNat 0=(x:Int) from rfl]
   refine other_ok (e:=es.getD i (0,0)) (by omega) (by omega) (by omega) fun G4 l4=>asI_mk ?_
   rw [hy]
   have hG:=AHeap.le_trans hG l4
   have hM4:=Nat.le_trans hM4 l4.1
   have hW:=hW.le l4
   have oD:=oD.le l4
   have hQ:=hQ.le l4
   have oi:=own_ints (c:=n.toNat+1) oD
   rw [hD.len] at oi
   have hyl:y<D3.length:=by rw [hD.len];exact hyn
   have hxl3:x<D3.length:=by rw [hD.len];exact hxl
   have pi':p i=s.testBit i:=by rw [hp]
   unfold F206.B8
   refine oi.rd (by omega) (by omega) (pif_cases (fun hb=>?_) fun hb=>?_)
   ·have hn:farB D3 y=false:=by
     have:=of_decide_eq_true hb
     rw [Int.toNat_natCast] at this
     cases hf:farB D3 y with
     | false=>rfl
     | true=>have:=(farB_iff hyl).1 hf;omega
    refine has_ok hs (by omega) (asB_mk ?_)
    rw [Int.toNat_natCast,← pi']
    refine pif_cases (fun hb=>?_) fun hb=>?_
    ·have hpi:p i=false:=by simpa using hb
     have hx3:farB D3 x=true:=hX.ex.q x (by simp)
     have hx0:=(farB_iff hxl3).1 hx3
     have hr:=(hD.rng x hxl).2
     unfold F206.B7
     refine hQ.ints.rd (by decide) (by simp) ?_
     rw [show (NI (x::R)).getD (0:Int).toNat 0=(x:Int) from rfl]
     refine oi.rd (by omega) (by omega) (own_idx (by omega) (by omega) (stK_1 oD (by simp;omega) rfl fun G5 b5 o5=>?_))
     rw [Int.toNat_natCast,Int.toNat_natCast,wrap_id (by omega) (by omega)] at o5
     have o5:Own G5 b0 2 (LI (D3.set y (D3.getD x 0+1))):=by rw [← List.map_set] at o5;exact o5
     have hD5:=hD.set hx3 hyn hn
     have hG5:=b5.le hG hb0l
     have hQ5:=hQ.but b5 hb03
     have hW5:=hW.but b5 hb03
     unfold F206.B6
     refine hQ5.pushN E_int (by decide) (by rw [b5.len];exact hM4) (n:=1) (ys:=[.int .i64 y]) rfl rfl (by have:=hX.mu;simp;omega) (by simp) fun v' G6 k6 ot6 nb6 f6=>?_
     unfold F206.B5
     rw [wrap_id (by omega) (by omega)]
     refine ⟨⟨rfl,rfl,rfl,rfl,k6.le hG5 (by omega),by have:=k6.len;have:=b5.len;omega,hW5.oth ot6 hA,(fun b hb hb'=>by have:=(hW5.lt hb).2;have:=nb6 b hb';omega),t+1,by omega,by omega,rfl,_,x::(R++[y]),k6.own o5 hb03,hD5,⟨R++[y],rfl,?_⟩,by simpa using f6.sl⟩,by simp;omega⟩
     rw [farB_set hyl (by omega)]
     exact hX.push (adj_of hi2 hpi hi3 hy.symm) hyn hn fun j hj=>(hstep j hj).imp id fun h=>h.2
    ·have hpi:p i=true:=by simpa using hb
     unfold F206.B5
     rw [wrap_id (by omega) (by omega)]
     refine ⟨⟨rfl,rfl,rfl,rfl,hG,hM4,hW,hA,t+1,by omega,by omega,rfl,D3,x::R,oD,hD,⟨R,rfl,hX.more fun j hj=>?_⟩,hQ⟩,by simp;omega⟩
     rcases hstep j hj with h|⟨h,rfl⟩
     ·exact .inl h
     ·rw [hpi] at h;cases h
   ·have hn:farB D3 y=true:=by
     have:=of_decide_eq_false hb
     rw [Int.toNat_natCast] at this
     exact (farB_iff hyl).2 (by omega)
    unfold F206.B5
    rw [wrap_id (by omega) (by omega)]
    refine ⟨⟨rfl,rfl,rfl,rfl,hG,hM4,hW,hA,t+1,by omega,by omega,rfl,D3,x::R,oD,hD,⟨R,rfl,hX.more fun j hj=>?_⟩,hQ⟩,by simp;omega⟩
    rcases hstep j hj with h|⟨h,rfl⟩
    ·exact .inl h
    ·exact .inr hn
  ·have ht3:t=3:=by have:=of_decide_eq_false hb;omega
   subst ht3
   unfold F206.B3
   obtain ⟨hE,hlt⟩:=hX.pop fun j hj=>by rw [← h3];exact PastV.fin hj
   refine hQ.drop (i:=1) (n:=R.length+1) (by simp) (by decide) (by omega) (by omega) fun v' hv'=>?_
   have hv':Sl H4.length G3 v' 2 1 (LI (NI R)):=by simpa using hv'
   refine ⟨⟨rfl,rfl,hG,hM4,rfl,D3,R,oD,hD,⟨hE,hX.bnd,by omega⟩,hv'⟩,?_⟩
   show 2*unseen (rowFar G3 b0) n.toNat+lenV v'<2*unseen (rowFar G b0) n.toNat+lenV x8
   rw [hmu,Sl_lenV hv',rowFar_own oD]
   simpa [hM] using hlt
 ·have hz:Q=[]:=by
   have:=of_decide_eq_false hb
   cases Q with
   | nil=>rfl
   | cons x Q=>simp at this
  subst hz
  unfold F206.B1
  refine k b0 D G (AHeap.le_trans l1 hG) (by have:=l1.1;omega) oD hD.len fun w hw=>?_
  rw [← farB_iff (by have:=hD.len;omega)]
  exact hE.fin w
end Go.Proofs
namespace Go.Proofs
open Go.Abs

variable {H G:AHeap} {v u f:Value} {l m c D:List Int} {es fs:List (Int × Int)} {K:Value→AHeap→Prop}

theorem sides_ok {n:Int} {s:Nat} (h:Edges H v es) (hg:IsG n es) (hs:s<2^64)
 (k:∀ v' G,H.le G→RowsF (fun b=>H.length≤b) G.length G v' (sidesL (restL es fun j=>s.testBit j) n.toNat)→K v' G) :
 AC Tryz.prog T0 176 [.agg ⟨[.int .i64 n,v]⟩,.int .u64 (s:Nat)] H K:=by
 have n0:=hg.ed.lo;have n1:=hg.ed.hi
 apply F176.ac
 unfold F176.B20
 refine newK_f (all_iv (edges_one' h)) fun H1 l1 _ o1=>?_
 unfold F176.B19 F176.B18 F176.B17
 refine ldI_own o1 rfl ?_
 obtain ⟨fs,hfs⟩:∃ fs,fs=restL es fun j=>s.testBit j:=⟨_,rfl⟩
 rw [← hfs] at k
 unfold F176.L2
 refine ⟨fun x1 x2 x5 x6 x12 x13 G=>((s:Nat):Int)=x1∧H.length=x2∧n=x12∧H1.le G∧∃ i:Nat,x13=i∧i≤n.toNat∧RowsF (fun b=>H1.length≤b) G.length G x5 (sidesTo fs n.toNat i)∧
  ∃ z:Nat,x6=((z:Nat):Int)∧z<2^64∧∀ w,z.testBit w=true↔w<n.toNat∧∃ a,a<i∧Rch (vAdj fs) a w,
  fun _ _ _ _ _ x13 _=>n.toNat-x13.toNat,⟨rfl,rfl,rfl,AHeap.le_refl _,0,rfl,by omega,.nil,0,rfl,by decide,fun w=>?_⟩,?_⟩
 ·simp
 rintro x1 x2 x5 x6 x12 x13 G ⟨rfl,rfl,rfl,hG,i,rfl,hi,hR,z,rfl,hz,hzb⟩
 have lG:=AHeap.le_trans l1 hG
 have oG:=o1.le hG
 unfold F176.B16
 refine pif_cases (fun hb=>?_) fun hb=>?_
 ·have hin:i<n.toNat:=by have:=of_decide_eq_true hb;omega
  have hzi:z.testBit i=!vLeadB fs i:=by
   rw [Bool.eq_iff_iff,hzb,Bool.not_eq_true',← Bool.not_eq_true,vLeadB_iff]
   constructor
   ·rintro ⟨_,a,h1,h2⟩ h;exact h a h1 h2
   ·intro h
    refine ⟨hin,Classical.byContradiction fun h'=>h fun b hb hr=>h' ⟨b,hb,hr⟩⟩
  unfold F176.B15 F176.B14
  refine has_ok hz (by omega) (asB_mk ?_)
  rw [Int.toNat_natCast,hzi]
  refine pif_cases (fun hb=>?_) fun hb=>?_
  ·have hl:vLeadB fs i=false:=by simpa using hb
   unfold F176.B3
   rw [wrap_id (by omega) (by omega)]
   refine ⟨⟨rfl,rfl,rfl,hG,i+1,by omega,by omega,?_,z,rfl,hz,fun w=>?_⟩,by simp;omega⟩
   ·rw [sidesTo_succ,hl];simpa using hR
   ·rw [hzb]
    refine and_congr_right fun _=>⟨fun ⟨a,h1,h2⟩=>⟨a,by omega,h2⟩,fun ⟨a,h1,h2⟩=>?_⟩
    by_cases e:a=i
    ·subst e
     have:=(hzb a).1 (by rw [hzi,hl];rfl)
     obtain ⟨_,b,g1,g2⟩:=this
     exact ⟨b,g1,g2.trans h2⟩
    ·exact ⟨a,by omega,h2⟩
  ·have hl:vLeadB fs i=true:=by simpa using hb
   unfold F176.B13 F176.B12
   refine ldI_own oG rfl (ld1_own oG rfl (distances_ok (h.le lG) hg hs hin fun b0 D G2 l2 hb0 oD hD hfar=>?_))
   rw [← hfs] at hfar
   refine lenK_of ?_
   have hG2:=AHeap.le_trans hG l2
   have hb2:=oD.lt
   have hG2':=hG2.1
   unfold F176.L5
   refine ⟨fun x1 x2 x5' x6 x8 x12 x13 x22 x23 x24 G'=>((s:Nat):Int)=x1∧H.length=x2∧x5=x5'∧n=x12∧((i:Nat):Int)=x13∧.slice (some ⟨b0,0,none⟩) n.toNat (n.toNat+1)=x22∧(n.toNat:Int)=x23∧H1.le G'∧G2.length≤G'.length∧Own G' b0 2 (LI D)∧RowsF (fun b=>H1.length≤b) G2.length G' x5 (sidesTo fs n.toNat i)∧
    ∃ t:Nat,x24=t∧t≤n.toNat∧Fresh G2.length G' x8 2 1 (LI (filtB (rchB (vAdj fs) i) t))∧∃ z':Nat,x6=((z':Nat):Int)∧z'<2^64∧∀ w,z'.testBit w=true↔z.testBit w=true∨w<t∧Rch (vAdj fs) i w,
    fun _ _ _ _ _ _ _ _ _ x24 _=>n.toNat-x24.toNat,⟨rfl,rfl,rfl,rfl,rfl,rfl,rfl,hG2,Nat.le_refl _,oD,(hR.le l2).mono (fun _ h=>h) l2.1,0,rfl,by omega,.inl ⟨rfl,.inl rfl⟩,z,rfl,hz,fun w=>by simp⟩,?_⟩
   clear oD hR lG oG hG2 hG
   rintro x1 x2 x5' x6 x8 x12 x13 x22 x23 x24 G3 ⟨rfl,rfl,rfl,rfl,rfl,rfl,rfl,hG,hGl,oD,hR,t,rfl,ht,hF,z',rfl,hz',hzb'⟩
   unfold F176.B11
   refine pif_cases (fun hb=>?_) fun hb=>?_
   ·have htn:t<n.toNat:=by have:=of_decide_eq_true hb;omega
    have hft:=hfar t htn
    have hfl:=filtB_length (rchB (vAdj fs) i) t
    unfold F176.B10
    have oi:=own_ints (c:=n.toNat+1) oD
    rw [hD] at oi
    refine oi.rd (by omega) (by omega) ?_
    rw [Int.toNat_natCast]
    unfold F176.B9
    refine pif_cases (fun hb=>?_) fun hb=>?_
    ·have hr:Rch (vAdj fs) i t:=hft.1 (of_decide_eq_true hb)
     unfold F176.B8
     refine hF.sl.pushN E_int (by decide) hGl (n:=1) (ys:=[.int .i64 t]) rfl rfl (by simp;omega) (by simp) fun v' G4 k4 ot4 nb4 f4=>?_
     unfold F176.B7
     refine ⟨by omega,?_⟩
     have p64:2^t<2^64:=Nat.pow_lt_pow_right (by decide) (by omega)
     rw [one_shl (by omega) (by omega),Int.toNat_natCast,bits_or hz' p64]
     unfold F176.B6
     rw [wrap_id (by omega) (by omega)]
     refine ⟨⟨rfl,rfl,rfl,rfl,rfl,rfl,rfl,k4.le hG (by have:=hG2';omega),by have:=k4.len;omega,k4.own oD hb2,hR.keep k4,t+1,by omega,by omega,?_,z'|||2^t,rfl,or_lt hz' p64,fun w=>?_⟩,by simp;omega⟩
     ·rw [filtB_succ,rchB_iff.2 hr];simpa using f4
     ·rw [Nat.testBit_or,Nat.testBit_two_pow,Bool.or_eq_true,hzb',decide_eq_true_iff]
      constructor
      ·rintro ((h|h)|rfl)
       ·exact .inl h
       ·exact .inr ⟨by omega,h.2⟩
       ·exact .inr ⟨by omega,hr⟩
      ·rintro (h|⟨h1,h2⟩)
       ·exact .inl (.inl h)
       ·by_cases e:t=w
        ·exact .inr e
        ·exact .inl (.inr ⟨by omega,h2⟩)
    ·have hr:¬ Rch (vAdj fs) i t:=fun h=>of_decide_eq_false hb (hft.2 h)
     unfold F176.B6
     rw [wrap_id (by omega) (by omega)]
     refine ⟨⟨rfl,rfl,rfl,rfl,rfl,rfl,rfl,hG,hGl,oD,hR,t+1,by omega,by omega,?_,z',rfl,hz',fun w=>?_⟩,by simp;omega⟩
     ·rw [filtB_succ,Bool.eq_false_iff.2 fun h=>hr (rchB_iff.1 h)];simpa using hF
     ·rw [hzb']
      refine or_congr Iff.rfl ⟨fun ⟨h1,h2⟩=>⟨by omega,h2⟩,fun ⟨h1,h2⟩=>⟨?_,h2⟩⟩
      by_cases e:t=w
      ·subst e;exact absurd h2 hr
      ·omega
   ·have htn:t=n.toNat:=by have:=of_decide_eq_false hb;omega
    subst htn
    have hsl:=sidesTo_length fs n.toNat i
    unfold F176.B4
    refine hR.push hGl (fun b hb=>by have:=hG2';omega) hF (by omega) fun v' G4 ot nb hlen hR4=>?_
    unfold F176.B3
    rw [wrap_id (by omega) (by omega)]
    refine ⟨⟨rfl,rfl,rfl,?_,i+1,by omega,by omega,?_,z',rfl,hz',fun w=>?_⟩,by simp;omega⟩
    ·refine ⟨by have:=hG.1;omega,fun b o ho=>ot b o (fun hv=>?_) (hG.2 _ _ ho)⟩
     obtain ⟨vs,_,_,q3,_⟩:=hR
     have:=(q3 b hv).1
     have:=lt_of_get ho
     omega
    ·rw [sidesTo_succ,hl];exact hR4
    ·rw [hzb',hzb]
     constructor
     ·rintro (⟨h1,a,h2,h3⟩|⟨h1,h2⟩)
      ·exact ⟨h1,a,by omega,h3⟩
      ·exact ⟨h1,i,by omega,h2⟩
     ·rintro ⟨h1,a,h2,h3⟩
      by_cases e:a=i
      ·subst e;exact .inr ⟨h1,h3⟩
      ·exact .inl ⟨h1,a,by omega,h3⟩
 ·have hin:i=n.toNat:=by have:=of_decide_eq_false hb;omega
  subst hin
  unfold F176.B1
  exact k _ _ lG (hR.mono (fun b hb=>by have:=l1.1;omega) (Nat.le_refl _))
end Go.Proofs
namespace Go.Proofs
open Go.Abs

variable {H G:AHeap} {v u f:Value} {l m c D:List Int} {es fs:List (Int × Int)} {K:Value→AHeap→Prop} {A:Nat→Prop} {B:Nat} {ls:List (List Int)}

end Go.Proofs
namespace Go.Proofs
open Go.Abs

variable {H G:AHeap} {v u f:Value} {l m c D:List Int} {es fs:List (Int × Int)} {K:Value→AHeap→Prop}

end Go.Proofs
namespace Go.Proofs
open Go.Abs

variable {H G:AHeap} {v u f:Value} {l m c D:List Int} {es fs:List (Int × Int)} {K:Value→AHeap→Prop} {A A':Nat→Prop} {B:Nat} {ls ms:List (List Int)}

end Go.Proofs
namespace Go.Proofs
open Go.Abs

variable {H G:AHeap}

abbrev ptrV (b:Nat):Value:=.pointer (some ⟨b,0,none⟩)
abbrev growV (a b c:Nat):Value:=.func (.func 180) ⟨[]⟩ ⟨[ptrV a,ptrV b,ptrV c]⟩
theorem grow_ok {m:Nat} (hm:m≤62) {doV:Value} {c3 c4 c5:Nat} {t3 t4 t5:TypeId} {J:List (List Int)→AHeap→Prop} {q:List Int→Bool} {T:List (List Int)} {N:Nat}
 (h3:∀ done G,J done G→Own G c3 t3 [doV]) (h4:∀ done G,J done G→Own G c4 t4 [.int .i64 (m:Nat)]) (h5:∀ done G,J done G→Own G c5 t5 [growV c3 c4 c5])
 (hdo:∀ done l G,J done G→l∈T→done.length<N→∀ K:Value→AHeap→Prop,(∀ G',J (done++[l]) G'→K (.bool (q l)) G')→callV Tryz.prog T0 doV [.int .u64 (setN l:Nat)] G K) :
 ∀ (left f:Nat) (pre:List Int) (done:List (List Int)) (G:AHeap) (K:Value→AHeap→Prop),left≤64→f≤m→(∀ x∈pre,0≤x∧x<64)→(∀ l∈cmb m left f,pre++l∈T)→done.length+(cmb m left f).length≤N→J done G→
  (∀ G',J (done++upTo q ((cmb m left f).map (pre++·))) G'→K (.bool (((cmb m left f).map (pre++·)).any q)) G')→
  AC Tryz.prog T0 180 [.int .u64 (setN pre:Nat),.int .i64 (f:Nat),.int .i64 (left:Nat),ptrV c3,ptrV c4,ptrV c5] G K
 | 0,f,pre,done,G,K,_,hf,hpre,hT,hN,hJ,k=>by
  apply F180.ac
  unfold F180.B10 F180.B9
  refine pif_t rfl ?_
  unfold F180.B8
  have hp:pre∈T:=by have:=hT [] (by simp [cmb_zero]);simpa using this
  refine asP_mk (ld1_own (h3 _ _ hJ) rfl (hdo done pre G hJ hp (by simp [cmb_zero] at hN;omega) _ fun G' hG'=>asB_mk ?_))
  have k:=k G'
  rw [cmb_zero] at k
  have e1:upTo q ([[]].map (pre++·))=[pre]:=by simp [upTo]
  have e2:([[]].map (pre++·)).any q=q pre:=by simp
  rw [e1,e2] at k
  exact k hG'
 | left+1,f,pre,done,G,K,hl,hf,hpre,hT,hN,hJ,k=>by
  apply F180.ac
  unfold F180.B10 F180.B9
  refine pif_f (by simp;omega) ?_
  unfold F180.B7 F180.L2
  refine ⟨fun x0 x2 x4 x5 x10 G=>((setN pre:Nat):Int)=x0∧((left+1:Nat):Int)=x2∧ptrV c4=x4∧ptrV c5=x5∧∃ i:Nat,x10=i∧f≤i∧i≤m∧((cmbTo m left f i).map (pre++·)).any q=false∧J (done++(cmbTo m left f i).map (pre++·)) G,
   fun _ _ _ _ x10 _=>m+1-x10.toNat,⟨rfl,rfl,rfl,rfl,f,rfl,Nat.le_refl _,hf,?_,?_⟩,?_⟩
  ·rw [cmbTo_start (Nat.le_refl _)];rfl
  ·rw [cmbTo_start (Nat.le_refl _)];simpa using hJ
  rintro x0 x2 x4 x5 x10 G ⟨rfl,rfl,rfl,rfl,i,rfl,hfi,him,hno,hJ⟩
  unfold F180.B6
  refine asP_mk (ldI_own (h4 _ _ hJ) rfl ?_)
  rw [wrap_id (by omega) (by omega)]
  refine pif_cases (fun hb=>?_) fun hb=>?_
  ·have hil:i+left+1≤m:=by have:=of_decide_eq_true hb;omega
   have p64:2^i<2^64:=Nat.pow_lt_pow_right (by decide) (by omega)
   unfold F180.B5
   refine asP_mk (ld1_own (h5 _ _ hJ) rfl ⟨by omega,callV_mk ?_⟩)
   rw [one_shl (by omega) (by omega),Int.toNat_natCast,bits_or (setN_lt fun x hx=>(hpre x hx).2) p64,← setN_snoc,wrap_id (by omega) (by omega),wrap_id (by omega) (by omega),show ((i:Nat):Int)+1=((i+1:Nat):Int) by omega,show (((left+1:Nat):Nat):Int)-1=((left:Nat):Int) by omega]
   have hmap:((cmb m left (i+1)).map ((i:Int)::·)).map (pre++·)=(cmb m left (i+1)).map ((pre++[(i:Int)])++·):=by
    rw [List.map_map];exact List.map_congr_left fun l _=>by simp
   have hsucc:(cmbTo m left f (i+1)).map (pre++·)=(cmbTo m left f i).map (pre++·)++(cmb m left (i+1)).map ((pre++[(i:Int)])++·):=by
    rw [cmbTo_succ hfi,List.map_append,hmap]
   have hall:∃ rest,(cmb m (left+1) f).map (pre++·)=(cmbTo m left f (i+1)).map (pre++·)++rest:=by
    have key:∀ d,i+1+d≤m→∃ rest,(cmbTo m left f (i+1+d)).map (pre++·)=(cmbTo m left f (i+1)).map (pre++·)++rest:=by
     intro d
     induction d with
     | zero=>intro _;exact ⟨[],by simp⟩
     | succ d ih=>
      intro hd
      obtain ⟨r,hr⟩:=ih (by omega)
      rw [← Nat.add_assoc,cmbTo_succ (by omega),List.map_append,hr,List.append_assoc]
      exact ⟨_,rfl⟩
    have:=key (m-(i+1)) (by omega)
    rwa [show i+1+(m-(i+1))=m by omega] at this
   refine grow_ok hm h3 h4 h5 hdo left (i+1) (pre++[(i:Int)]) _ G _ (by omega) (by omega) (fun x hx=>?_) (fun l hl'=>?_) ?_ hJ fun G' hG'=>asB_mk ?_
   ·rcases List.mem_append.1 hx with hx|hx
    ·exact hpre x hx
    ·rw [List.mem_singleton] at hx;omega
   ·have:(i:Int)::l∈cmb m (left+1) f:=by
     rw [cmb_succ,cmbTo,List.mem_flatMap]
     exact ⟨i,by rw [List.mem_filter,List.mem_range];exact ⟨by omega,by simpa using hfi⟩,List.mem_map.2 ⟨l,hl',rfl⟩⟩
    have:=hT _ this
    simpa using this
   ·obtain ⟨rest,hr⟩:=hall
    have:=congrArg List.length hr
    rw [hsucc] at this
    simp only [List.length_append,List.length_map] at this ⊢
    omega
   ·refine pif_cases (fun hq=>?_) fun hq=>?_
    ·unfold F180.B4
     have k:=k G'
     obtain ⟨rest,hr⟩:=hall
     have hany:((cmbTo m left f (i+1)).map (pre++·)).any q=true:=by rw [hsucc,List.any_append,hq];simp
     rw [hr,List.any_append,hany,Bool.true_or,upTo_stop hany,hsucc,upTo_app hno,← List.append_assoc] at k
     exact k hG'
    ·unfold F180.B3
     rw [wrap_id (by omega) (by omega)]
     refine ⟨⟨rfl,rfl,rfl,rfl,i+1,by omega,by omega,by omega,?_,?_⟩,by simp;omega⟩
     ·rw [hsucc,List.any_append,hno,hq];rfl
     ·rw [upTo_all hq] at hG'
      rw [hsucc,← List.append_assoc];exact hG'
  ·have hil:m<i+left+1:=by have:=of_decide_eq_false hb;omega
   unfold F180.B1
   have k:=k G
   rw [cmb_succ,cmbTo_end him hfi hil,hno,upTo_all hno] at k
   exact k hJ
theorem choose_ok {m n:Nat} (hm:m≤62) (hn:n≤64) {doV:Value} (hd:doV.oneCell'=true) {J:AHeap→List (List Int)→AHeap→Prop} {q:List Int→Bool} {K:Value→AHeap→Prop}
 (h0:∀ B,H.le B→B.length=H.length+3→J B [] B) (hb:∀ B done G,J B done G→∀ b o,H.length≤b→B[b]?=some (some o)→G[b]?=some (some o))
 (hdo:∀ B done l G,H.le B→B.length=H.length+3→J B done G→l∈cmb m n 0→done.length<(cmb m n 0).length→∀ K:Value→AHeap→Prop,(∀ G',J B (done++[l]) G'→K (.bool (q l)) G')→callV Tryz.prog T0 doV [.int .u64 (setN l:Nat)] G K)
 (k:∀ B G,H.le B→B.length=H.length+3→J B (upTo q (cmb m n 0)) G→K (.bool ((cmb m n 0).any q)) G) :
 AC Tryz.prog T0 136 [.int .i64 (m:Nat),.int .i64 (n:Nat),doV] H K:=by
 apply F136.ac
 unfold F136.B4
 refine newK_f rfl fun H1 l1 n1 o1=>pif_t hd (newK_f (by simpa using hd) fun H2 l2 n2 o2=>?_)
 unfold F136.B3
 refine newK_f rfl fun H3 l3 n3 o3=>?_
 unfold F136.B2
 refine stK_f o3 (by simp) (by simp [Value.oneCell']) rfl fun H4 b4 o4=>?_
 have l34:H2.le H4:=b4.le l3 (Nat.le_refl _)
 have l4:=AHeap.le_trans (AHeap.le_trans l1 l2) l34
 have o14:=o1.le (AHeap.le_trans l2 l34)
 have o24:=o2.le l34
 have hl4:H4.length=H.length+3:=by rw [b4.len];omega
 unfold F136.B1
 refine ld1_own o4 rfl (callV_mk ?_)
 refine grow_ok hm (t3:=_) (t4:=_) (t5:=_) (J:=J H4) (q:=q) (T:=cmb m n 0) (N:=(cmb m n 0).length) (doV:=doV) (fun done G hJ=>hb _ _ _ hJ _ _ (by omega) o24) (fun done G hJ=>hb _ _ _ hJ _ _ (by omega) o14) (fun done G hJ=>hb _ _ _ hJ _ _ (by omega) o4) (fun done l G hJ hl hn K hK=>hdo H4 done l G l4 hl4 hJ hl hn K hK) n 0 [] [] H4 _ hn (by omega) (fun x hx=>by cases hx) (fun l hl=>by simpa using hl) (by simp) (h0 H4 l4 hl4) fun G hG=>asB_mk ?_
 have e:(cmb m n 0).map ([]++·)=cmb m n 0:=by simp
 rw [e] at hG ⊢
 exact k H4 G l4 hl4 (by simpa using hG)
end Go.Proofs
namespace Go.Proofs
open Go.Abs

variable {H G:AHeap} {v u f:Value} {l m c D:List Int} {es fs:List (Int × Int)} {K:Value→AHeap→Prop} {A:Nat→Prop} {B:Nat} {ls:List (List Int)}

end Go.Proofs
namespace Go.Proofs
open Go.Abs

variable {es:List (Int × Int)} {p q:Nat→Bool} {n:Int} {w:Int}

def cn (f:Nat→Bool):Nat→Nat
 | 0=>0
 | k+1=>cn f k+if f k then 1 else 0
theorem cn_filt (f:Nat→Bool):∀ k,(filtB f k).length=cn f k
 | 0=>rfl
 | k+1=>by rw [filtB_succ,List.length_append,cn_filt f k,cn];split <;> rfl
theorem cn_congr {f g:Nat→Bool}:∀ {k},(∀ i,i<k→f i=g i)→cn f k=cn g k
 | 0,_=>rfl
 | k+1,h=>by rw [cn,cn,cn_congr fun i hi=>h i (by omega),h k (by omega)]
theorem cn_le {f g:Nat→Bool}:∀ {k},(∀ i,i<k→f i=true→g i=true)→cn f k≤cn g k
 | 0,_=>Nat.le_refl _
 | k+1,h=>by
  have:=cn_le (k:=k) fun i hi=>h i (by omega)
  have:=h k (by omega)
  rw [cn,cn]
  cases hf:f k <;> cases hg:g k <;> simp_all
  omega
theorem cn_add {f g:Nat→Bool}:∀ {k},(∀ i,i<k→¬ (f i=true∧g i=true))→cn (fun j=>f j||g j) k=cn f k+cn g k
 | 0,_=>rfl
 | k+1,h=>by
  have:=cn_add (k:=k) fun i hi=>h i (by omega)
  have:=h k (by omega)
  rw [cn,cn,cn]
  cases hf:f k <;> cases hg:g k <;> simp_all <;> omega
theorem degB_cn (p:Nat→Bool) (w:Int):degB es p w=cn (fun j=>on (es.getD j (0,0)) w&&p j) es.length:=cn_filt _ _
theorem deg_le (h:∀ j,j<es.length→p j=true→q j=true):degB es p w≤degB es q w:=by
 rw [degB_cn,degB_cn]
 exact cn_le fun j hj hp=>by simp only [Bool.and_eq_true] at hp ⊢;exact ⟨hp.1,h j hj hp.2⟩
def sm (f:Nat→Nat):Nat→Nat
 | 0=>0
 | k+1=>sm f k+f k
theorem sm_congr {f g:Nat→Nat}:∀ {k},(∀ i,i<k→f i=g i)→sm f k=sm g k
 | 0,_=>rfl
 | k+1,h=>by rw [sm,sm,sm_congr fun i hi=>h i (by omega),h k (by omega)]
theorem sm_add (f g:Nat→Nat):∀ k,sm (fun i=>f i+g i) k=sm f k+sm g k
 | 0=>rfl
 | k+1=>by rw [sm,sm,sm,sm_add f g k];omega
theorem sm_zero:∀ k,sm (fun _=>0) k=0
 | 0=>rfl
 | k+1=>by rw [sm,sm_zero k]
theorem sm_if (f:Nat→Bool):∀ k,sm (fun i=>if f i then 1 else 0) k=cn f k
 | 0=>rfl
 | k+1=>by rw [sm,cn,sm_if f k]
theorem sm_swap (f:Nat→Nat→Nat) (m:Nat):∀ k,sm (fun i=>sm (fun j=>f i j) m) k=sm (fun j=>sm (fun i=>f i j) k) m
 | 0=>by simp only [sm];exact (sm_zero m).symm
 | k+1=>by rw [sm,sm_swap f m k,← sm_add];exact sm_congr fun i _=>by rw [sm]
theorem sm_one {a:Nat} {c:Nat}:∀ {k},a<k→sm (fun i=>if i=a then c else 0) k=c
 | k+1,h=>by
  rw [sm]
  by_cases e:a=k
  ·subst e
   rw [sm_congr (g:=fun _=>0) fun i hi=>if_neg (by omega),sm_zero];simp
  ·rw [sm_one (k:=k) (by omega),if_neg (by omega),Nat.add_zero]
structure EndsIn (n:Int) (es:List (Int × Int)):Prop where
 get:∀ j,j<es.length→∃ a b:Nat,es.getD j (0,0)=((a:Int),(b:Int))∧a≠b∧(a:Int)<n∧(b:Int)<n
theorem IsG.endsIn (h:IsG n es):EndsIn n es:=⟨fun j hj=>by
 have hm:es.getD j (0,0)∈es:=by rw [getD_of hj];exact List.getElem_mem _
 obtain ⟨h1,h2,h3,h4,h5⟩:=h.ed.ends _ hm
 refine ⟨(es.getD j (0,0)).1.toNat,(es.getD j (0,0)).2.toNat,?_,by omega,by omega,by omega⟩
 rw [Int.toNat_of_nonneg h1,Int.toNat_of_nonneg h3]⟩
theorem hands (he:EndsIn n es) (A:Nat→Bool) (p:Nat→Bool) :
 sm (fun w=>if A w then degB es p w else 0) n.toNat=sm (fun j=>if p j then (if A (es.getD j (0,0)).1.toNat then 1 else 0)+(if A (es.getD j (0,0)).2.toNat then 1 else 0) else 0) es.length:=by
 have e1:∀ w,(if A w then degB es p w else 0)=sm (fun j=>if A w&&(on (es.getD j (0,0)) w&&p j) then 1 else 0) es.length:=fun w=>by
  cases hA:A w with
  | false=>simp [sm_zero]
  | true=>rw [sm_if];simp only [Bool.true_and,if_true];rw [degB_cn]
 rw [sm_congr fun w _=>e1 w,sm_swap]
 refine sm_congr fun j hj=>?_
 obtain ⟨a,b,hab,hne,ha,hb⟩:=he.get j hj
 rw [hab]
 cases hp:p j with
 | false=>simp [sm_zero]
 | true=>
  simp only [if_true,Int.toNat_natCast,Bool.and_true]
  rw [← sm_one (a:=a) (c:=if A a then 1 else 0) (k:=n.toNat) (by omega),← sm_one (a:=b) (c:=if A b then 1 else 0) (k:=n.toNat) (by omega),← sm_add]
  refine sm_congr fun w hw=>?_
  unfold on
  by_cases h1:w=a
  ·subst h1
   simp [hne]
  ·by_cases h2:w=b
   ·subst h2
    simp [hne,h1]
   ·have g1:¬ (a:Int)=w:=by omega
    have g2:¬ (b:Int)=w:=by omega
    simp [h1,h2,g1,g2]
end Go.Proofs
namespace Go.Proofs
open Go.Abs

variable {es fs gs:List (Int × Int)} {l:List Int} {n:Int}

theorem cmb_mem {m:Nat}:∀ {k f:Nat} {l:List Int},l.length=k→Asc l→(∀ x∈l,(f:Int)≤x∧x<m)→l∈cmb m k f
 | 0,f,[],_,_,_=>by rw [cmb_zero];simp
 | k+1,f,x::l,hl,ha,hr=>by
  have hx:=hr x (by simp)
  unfold Asc at ha
  rw [List.pairwise_cons] at ha
  rw [cmb_succ,cmbTo,List.mem_flatMap]
  refine ⟨x.toNat,List.mem_filter.2 ⟨List.mem_range.2 (by omega),by simp;omega⟩,?_⟩
  rw [List.mem_map]
  refine ⟨l,cmb_mem (by simpa using hl) ha.2 fun y hy=>?_,by rw [Int.toNat_of_nonneg (by omega)]⟩
  have h1:=hr y (by simp [hy])
  have h2:=ha.1 y hy
  omega
end Go.Proofs
namespace Go.Proofs
open Go.Abs

variable {es fs gs:List (Int × Int)} {l D:List Int} {n:Int} {p:Nat→Bool}

noncomputable def leadL (fs:List (Int × Int)) (n:Nat):List Nat:=(List.range n).filter (vLeadB fs)
theorem leadL_length (fs:List (Int × Int)) (n:Nat):(leadL fs n).length=(sidesL fs n).length:=by
 unfold leadL sidesL sidesTo;rw [List.length_map]
theorem leadL_get {n j:Nat} (hj:j<(leadL fs n).length):(sidesL fs n).getD j []=sideL fs n (leadL fs n)[j]∧(leadL fs n)[j]<n∧vLeadB fs (leadL fs n)[j]=true:=by
 have hm:=List.getElem_mem hj
 have hm2:(leadL fs n)[j]∈(List.range n).filter (vLeadB fs):=hm
 rw [List.mem_filter,List.mem_range] at hm2
 refine ⟨?_,hm2.1,hm2.2⟩
 unfold sidesL sidesTo
 have hj':j<(((List.range n).filter (vLeadB fs)).map (sideL fs n)).length:=by rw [List.length_map];exact hj
 rw [List.getD,List.getElem?_eq_getElem hj',Option.getD_some,List.getElem_map];rfl
end Go.Proofs
namespace Go.Proofs
open Go.Abs

variable {H G:AHeap} {v u f:Value} {l m c D:List Int} {es fs:List (Int × Int)} {K:Value→AHeap→Prop} {n:Int}

theorem isG_ends (hg:IsG n es):∀ e∈es,0≤e.1∧e.1<n∧0≤e.2∧e.2<n:=fun e he=>by have:=hg.ed.ends e he;omega
theorem sidesN_le (fs:List (Int × Int)) (n:Nat):(sidesL fs n).length≤n:=sidesTo_length fs n n
end Go.Proofs
namespace Go.Proofs
open Go.Abs

variable {H G:AHeap} {v u f:Value} {l m c D:List Int} {es fs:List (Int × Int)} {K:Value→AHeap→Prop} {n:Int}

end Go.Proofs
namespace Go.Proofs
open Go.Abs

variable {H G:AHeap} {v u f:Value} {l m c D:List Int} {es fs:List (Int × Int)} {K:Value→AHeap→Prop} {n:Int}

theorem side_bit {N v j:Nat} (hj:j<N):(setN (sideL fs N v)).testBit j=rchB (vAdj fs) v j:=by
  rw [setN_bit fun x hx=>by obtain ⟨y,rfl,_⟩:=mem_sideL.1 hx;omega]
  rw [Bool.eq_iff_iff,decide_eq_true_iff,mem_sideL,rchB_iff]
  exact ⟨fun ⟨y, e, _, h⟩ => by obtain rfl : j = y := by omega
                                exact h,fun h=>⟨j,rfl,hj,h⟩⟩
end Go.Proofs
namespace Go.Proofs
open Go.Abs

variable {H G:AHeap} {v u f:Value} {l m c:List Int} {es fs:List (Int × Int)} {K:Value→AHeap→Prop} {A:Nat→Prop} {B:Nat} {ls:List (List Int)}

end Go.Proofs
namespace Go.Proofs
open Go.Abs

variable {H G:AHeap} {v u f:Value} {l m c:List Int} {es fs:List (Int × Int)} {K:Value→AHeap→Prop} {A:Nat→Prop} {B:Nat} {ls:List (List Int)}

end Go.Proofs
namespace Go.Proofs
open Go.Abs

variable {H G:AHeap} {v u f:Value} {l m c:List Int} {es fs:List (Int × Int)} {K:Value→AHeap→Prop}

end Go.Proofs
namespace Go.Proofs
open Go.Abs

variable {es fs:List (Int × Int)} {l:List Int} {n:Int}

theorem sm_mul (c:Nat) (f:Nat→Nat):∀ k,sm (fun i=>c*f i) k=c*sm f k
 | 0=>rfl
 | k+1=>by rw [sm,sm,sm_mul c f k,Nat.mul_add]
end Go.Proofs
namespace Go.Proofs
open Go.Abs

variable {H G:AHeap} {v u f:Value} {l m c D:List Int} {es fs:List (Int × Int)} {K:Value→AHeap→Prop} {n:Int}

end Go.Proofs
namespace Go.Proofs
open Go.Abs

variable {H G G' Hb H0:AHeap} {v u f w:Value} {l m D:List Int} {es fs:List (Int × Int)} {K:Value→AHeap→Prop} {bs:Nat} {n:Int}

theorem Kb.keep (h:Kb bs H G) (k:Keep H.length G G'):Kb bs H G':=⟨Nat.le_trans h.len k.len,fun q o hq ho=>k.old q o (lt_of_get ho) (h.old q o hq ho)⟩
theorem Src.keep {m0:Nat} (h:Src Hb bs G) (k:Keep m0 G G') (hm:bs<m0):Src Hb bs G':=by
 obtain ⟨h1,h2,cv,l,a,y,h3,h4,h5,h6,h7⟩:=h
 exact ⟨k.le h1 (by omega),h2,cv,l,a,y,h3,h4,k.own h5 hm,h6,h7⟩
end Go.Proofs
namespace Go.Proofs
open Go.Abs

variable {H G G' Hb H0:AHeap} {v u f w:Value} {l m D:List Int} {es fs:List (Int × Int)} {K:Value→AHeap→Prop} {bs:Nat} {n:Int}

end Go.Proofs
namespace Go.Proofs
open Go.Abs

theorem fv_left {s n:Nat} (h:left s n=0):fv s n=n:=by
 rcases Nat.lt_or_ge (fv s n) n with h'|h'
 ·have:=unseen_ins (S:=fun j=>s.testBit j) h' (fv_at h')
  unfold left at h;omega
 ·have:=fv_le s n;omega
end Go.Proofs
namespace Go.Proofs
open Go.Abs

variable {es:List (Int × Int)} {l:List Int} {n:Int}

theorem edge_ends (hg:IsG n es) {i:Nat} (hi:i<es.length):∃ a b:Nat,es.getD i (0,0)=((a:Int),(b:Int))∧a<b∧(b:Int)<n:=by
 obtain ⟨d1,d2,d3,d4,d5⟩:=hg.ed.ends es[i] (List.getElem_mem hi)
 have up:=hg.up es[i] (List.getElem_mem hi)
 rw [← getD_of (d:=(0,0)) hi] at d1 d2 d3 d4 d5 up
 refine ⟨(es.getD i (0,0)).1.toNat,(es.getD i (0,0)).2.toNat,?_,by omega,by omega⟩
 rw [Int.toNat_of_nonneg d1,Int.toNat_of_nonneg d3]
theorem on_ab {a b x:Nat}:on ((a:Int),(b:Int)) (x:Int)=true↔x=a∨x=b:=by
 unfold on
 simp only [Bool.or_eq_true,beq_iff_eq]
 omega
theorem degC_count (hg:IsG n es) (x:Nat):∀ L:List Int,(∀ i∈L,0≤i∧i<es.length)→degC es L x=(ends es L).count (x:Int)
 | [],_=>rfl
 | i::L,hL=>by
  have hi:=hL i (by simp)
  obtain ⟨k,rfl⟩:∃ k:Nat,i=k:=⟨i.toNat,by omega⟩
  obtain ⟨a,b,e1,e2,e3⟩:=edge_ends hg (i:=k) (by omega)
  rw [degC_cons,degC_count hg x L fun j hj=>hL j (by simp [hj])]
  have:ends es ((k:Int)::L)=(a:Int)::(b:Int)::ends es L:=by
   unfold ends;rw [List.flatMap_cons,Int.toNat_natCast,e1];rfl
  rw [this,List.count_cons,List.count_cons,e1]
  by_cases h1:x=a
  ·rw [if_pos (on_ab.2 (.inl h1))]
   have h2:¬ x=b:=by omega
   simp [h1];omega
  ·by_cases h2:x=b
   ·rw [if_pos (on_ab.2 (.inr h2))]
    simp [h2];omega
   ·rw [if_neg fun h=>(on_ab.1 h).elim h1 h2]
    have g1:¬ (a:Int)=(x:Int):=by omega
    have g2:¬ (b:Int)=(x:Int):=by omega
    simp [g1,g2]
theorem mem_ends (hg:IsG n es) (hr:∀ i∈l,0≤i∧i<es.length) {y:Int} (hy:y∈ends es l):0≤y∧y<n:=by
 unfold ends at hy
 obtain ⟨i,hi,hy⟩:=List.mem_flatMap.1 hy
 have h:=hr i hi
 obtain ⟨a,b,e1,e2,e3⟩:=edge_ends hg (i:=i.toNat) (by omega)
 rw [e1] at hy
 simp only [List.mem_cons,List.not_mem_nil,or_false] at hy
 omega
theorem one_isM (hg:IsG n es) (hs:IsS l es.length) (ho:OneAt n es l):IsM n es l:=by
 have hr:=hs.range
 have hnd:(ends es l).Nodup:=by
  rw [List.nodup_iff_count]
  intro y
  by_cases hy:y∈ends es l
  ·have:=mem_ends hg hr hy
   obtain ⟨x,rfl⟩:∃ x:Nat,y=x:=⟨y.toNat,by omega⟩
   rw [← degC_count hg x l hr,ho x (by omega)]
   exact Nat.le_refl _
  ·rw [List.count_eq_zero.2 hy];omega
 have hup:(upto n.toNat).Nodup:=by
  unfold upto List.Nodup
  rw [List.pairwise_map]
  exact List.nodup_range.imp fun h e=>h (Int.ofNat.inj e)
 have h1:(ends es l).length≤n.toNat:=by
  have:=nodup_sub (m:=upto n.toNat) hnd fun y hy=>by
   have:=mem_ends hg hr hy
   unfold upto
   exact List.mem_map.2 ⟨y.toNat,List.mem_range.2 (by omega),Int.toNat_of_nonneg this.1⟩
  unfold upto at this
  rw [List.length_map,List.length_range] at this
  exact this
 have h2:n.toNat≤(ends es l).length:=by
  have:=nodup_sub (m:=ends es l) hup fun y hy=>by
   unfold upto at hy
   obtain ⟨x,hx,rfl⟩:=List.mem_map.1 hy
   rw [List.mem_range] at hx
   have h:=ho x (by omega)
   rw [degC_count hg x l hr] at h
   show (x:Int)∈ends es l
   exact List.count_pos_iff.1 (by omega)
  unfold upto at this
  rw [List.length_map,List.length_range] at this
  exact this
 have n0:=hg.ed.lo
 refine ⟨hs,hnd,?_⟩
 rw [ends_length] at h1 h2
 omega
theorem degC_pos {x:Nat} {y:Int} (hy:y∈l) (h:on (es.getD y.toNat (0,0)) x=true):0<degC es l x:=by
 unfold degC
 exact List.length_pos_of_mem (List.mem_filter.2 ⟨hy,h⟩)
theorem matL_all (hg:IsG n es):∀ {k s:Nat} {l:List Int},Asc l→(∀ x∈l,0≤x∧x<es.length)→(∀ x:Nat,x<n.toNat→degC es l x=if s.testBit x then 0 else 1)→left s n.toNat≤2*k→l∈matL es n.toNat k s:=by
 intro k
 induction k with
 | zero=>
  intro s l ha hr hd hk
  have he:fv s n.toNat=n.toNat:=fv_left (by omega)
  rw [matL_end he,List.mem_singleton]
  cases l with
  | nil=>rfl
  | cons y l=>
   have hy:=hr y (by simp)
   obtain ⟨a,b,e1,e2,e3⟩:=edge_ends hg (i:=y.toNat) (by omega)
   have:=degC_pos (l:=y::l) (y:=y) (x:=a) (by simp) (by rw [e1];exact on_ab.2 (.inl rfl))
   rw [hd a (by omega),fv_below (s:=s) (n:=n.toNat) (j:=a) (by omega)] at this
   simp at this
 | succ k ih=>
  intro s l ha hr hd hk
  by_cases he:fv s n.toNat=n.toNat
  ·rw [matL_end he,List.mem_singleton]
   cases l with
   | nil=>rfl
   | cons y l=>
    have hy:=hr y (by simp)
    obtain ⟨a,b,e1,e2,e3⟩:=edge_ends hg (i:=y.toNat) (by omega)
    have:=degC_pos (l:=y::l) (y:=y) (x:=a) (by simp) (by rw [e1];exact on_ab.2 (.inl rfl))
    rw [hd a (by omega),fv_below (s:=s) (n:=n.toNat) (j:=a) (by omega)] at this
    simp at this
  ·have hlt:fv s n.toNat<n.toNat:=by have:=fv_le s n.toNat;omega
   have hvb:=fv_at hlt
   have h1:=hd _ hlt
   rw [hvb] at h1
   have h1:degC es l (fv s n.toNat)=1:=h1
   unfold degC at h1
   obtain ⟨e,hfe⟩:=List.length_eq_one_iff.1 h1
   have hem:e∈l∧on (es.getD e.toNat (0,0)) (fv s n.toNat)=true:=by
    have:e∈l.filter fun i=>on (es.getD i.toNat (0,0)) (fv s n.toNat):=by rw [hfe];simp
    exact List.mem_filter.1 this
   have hre:=hr e hem.1
   obtain ⟨i,rfl⟩:∃ i:Nat,e=i:=⟨e.toNat,by omega⟩
   rw [Int.toNat_natCast] at hem
   have ho:=hem.2
   have hi:i<es.length:=by omega
   have cov:∀ y∈l,∀ x:Nat,x<n.toNat→on (es.getD y.toNat (0,0)) x=true→s.testBit x=false:=fun y hy x hx hon=>by
    have:=degC_pos hy hon
    rw [hd x hx] at this
    cases hb:s.testBit x with
    | false=>rfl
    | true=>rw [hb] at this;simp at this
   have hw:(othN es (i:Int) (fv s n.toNat):Int)=(es.getD i (0,0)).1+(es.getD i (0,0)).2-fv s n.toNat:=by
    obtain ⟨a,b,e1,e2,e3⟩:=edge_ends hg hi
    rw [e1] at ho
    have:=on_ab.1 ho
    unfold othN;rw [Int.toNat_natCast,e1]
    show (((a:Int)+(b:Int)-(fv s n.toNat:Int)).toNat:Int)=(a:Int)+(b:Int)-(fv s n.toNat:Int)
    omega
   obtain ⟨w,hww⟩:∃ w,w=othN es (i:Int) (fv s n.toNat):=⟨_,rfl⟩
   rw [← hww] at hw
   have hwon:on (es.getD i (0,0)) w=true∧w<n.toNat:=by
    obtain ⟨a,b,e1,e2,e3⟩:=edge_ends hg hi
    rw [e1] at ho hw ⊢
    have:=on_ab.1 ho
    have hw:(w:Int)=(a:Int)+(b:Int)-(fv s n.toNat:Int):=hw
    exact ⟨on_ab.2 (by omega),by omega⟩
   have hb:s.testBit w=false:=cov i hem.1 w hwon.2 (by rw [Int.toNat_natCast];exact hwon.1)
   have fe:=firstE hg hi ho hw hb
   have hvw:=fe.vw
   obtain ⟨l',rfl⟩:∃ l',l=(i:Int)::l':=by
    cases l with
    | nil=>cases hem.1
    | cons y l'=>
     refine ⟨l',?_⟩
     congr 1
     apply Classical.byContradiction
     intro hne
     have hyi:y<(i:Int):=by
      rcases List.mem_cons.1 hem.1 with h|h
      ·exact absurd h.symm hne
      ·unfold Asc at ha
       exact (List.pairwise_cons.1 ha).1 _ h
     have hry:=hr y (by simp)
     obtain ⟨a,b,e1,e2,e3⟩:=edge_ends hg (i:=y.toNat) (by omega)
     have hle:=srt_le hg.srt (i:=y.toNat) (j:=i) (by omega) hi
     rw [fe.fst,e1] at hle
     have hle:(a:Int)≤(fv s n.toNat:Int):=hle
     have hca:=cov y (by simp) a (by omega) (by rw [e1];exact on_ab.2 (.inl rfl))
     have hav:a=fv s n.toNat:=by
      apply Classical.byContradiction
      intro hn
      rw [fv_below (s:=s) (n:=n.toNat) (j:=a) (by omega)] at hca
      cases hca
     have:y∈((y::l').filter fun i=>on (es.getD i.toNat (0,0)) (fv s n.toNat)):=List.mem_filter.2 ⟨by simp,by rw [e1];exact on_ab.2 (.inl hav.symm)⟩
     rw [hfe,List.mem_singleton] at this
     exact hne this
   unfold matL
   rw [if_neg he,List.mem_flatMap]
   refine ⟨i,mem_atL.2 ⟨i,rfl,hi,ho⟩,?_⟩
   rw [← hww,if_neg (by rw [hb];simp),List.mem_map]
   refine ⟨l',?_,rfl⟩
   have ha':Asc l':=by unfold Asc at ha ⊢;exact (List.pairwise_cons.1 ha).2
   have hl2:=left_two (s:=s) hlt fe.wn hvb hb (by omega)
   refine ih ha' (fun x hx=>hr x (by simp [hx])) (fun x hx=>?_) (by omega)
   have hdx:=hd x hx
   rw [degC_cons] at hdx
   have hon:on (es.getD i (0,0)) x=true↔x=fv s n.toNat∨x=w:=by
    have:=fe.fst;have:=fe.snd
    unfold on
    simp only [Bool.or_eq_true,beq_iff_eq]
    omega
   rw [Nat.testBit_or,Nat.testBit_or,Nat.testBit_two_pow,Nat.testBit_two_pow]
   by_cases h1:x=fv s n.toNat
   ·rw [if_pos (hon.2 (.inl h1)),h1,hvb] at hdx
    rw [h1];simp at hdx ⊢;exact hdx
   ·by_cases h2:x=w
    ·rw [if_pos (hon.2 (.inr h2)),h2,hb] at hdx
     rw [h2];simp at hdx ⊢;exact hdx
    ·rw [if_neg fun h=>(hon.1 h).elim h1 h2] at hdx
     rw [decide_eq_false fun e=>h1 e.symm,decide_eq_false fun e=>h2 e.symm]
     simpa using hdx
theorem mats_all (hg:IsG n es) (hs:IsS l es.length) (ho:OneAt n es l):l∈matL es n.toNat 10 0:=by
 have n0:=hg.ed.lo;have n1:=hg.ed.hi
 refine matL_all hg hs.asc hs.range (fun x hx=>?_) ?_
 ·rw [ho x (by omega)];simp
 ·have:=unseen_le (fun j=>Nat.testBit 0 j) n.toNat
  unfold left;omega
end Go.Proofs
namespace Go.Proofs
open Go.Abs

variable {es:List (Int × Int)} {p:Nat→Bool} {l c O:List Int} {cs:List (List Int)} {n:Int} {e:Nat}

theorem wk_inj (hg:IsG n es) (h2:Deg2 n es p) (he:e<es.length) (hpe:p e=true) {s t:Nat} (hs:s<(compL es p e).length) (ht:t<(compL es p e).length) (h:(wk es p e s).1=(wk es p e t).1):s=t:=by
 obtain ⟨a0,w,hW⟩:=wk_walk hg h2 he hpe _ (Nat.le_refl _)
 have hn:=hW.nd
 unfold wkL List.Nodup at hn
 rw [List.pairwise_map,List.pairwise_iff_getElem] at hn
 rcases Nat.lt_trichotomy s t with h'|h'|h'
 ·refine absurd ?_ (hn s t (by simpa using hs) (by simpa using ht) h')
  rw [List.getElem_range,List.getElem_range,h]
 ·exact h'
 ·refine absurd ?_ (hn t s (by simpa using ht) (by simpa using hs) h')
  rw [List.getElem_range,List.getElem_range,h]
theorem wk_adj (hg:IsG n es) (h2:Deg2 n es p) (he:e<es.length) (hpe:p e=true) {s t x:Nat} (hst:s<t) (ht:t<(compL es p e).length) (h1:on (es.getD (wk es p e s).1 (0,0)) x=true) (h3:on (es.getD (wk es p e t).1 (0,0)) x=true):t=s+1∨(s=0∧t+1=(compL es p e).length):=by
 have hWs:=wk_walk2 hg h2 he hpe s (by omega)
 have hWt:=wk_walk2 hg h2 he hpe t (by omega)
 have hne:(wk es p e t).1≠(wk es p e s).1:=fun h=>by have:=wk_inj hg h2 he hpe ht (by omega) h;omega
 have dg:∀ {a v:Nat},a≤(compL es p e).length→on (es.getD (wk es p e a).1 (0,0)) v=true→(v:Int)<n→degB es p v=2:=fun ha ho hv=>by
  have hW:=wk_walk2 hg h2 he hpe _ ha
  exact h2 _ hv (degB_pos hW.lt hW.pn ho)
 rcases (on_iff2 hWs.onw hWs.onv hWs.ne).1 h1 with hx|hx
 ·rcases (on_iff2 hWt.onw hWt.onv hWt.ne).1 h3 with hy|hy
  ·obtain ⟨t',rfl⟩:∃ t',t=t'+1:=⟨t-1,by omega⟩
   have hW':=wk_walk2 hg h2 he hpe t' (by omega)
   have hxe:x=(wk es p e t').2:=hy
   have hvn:=hW'.vn
   have d2:=dg (a:=t') (by omega) hW'.onv hvn
   have hoj:on (es.getD (wk es p e (t'+1)).1 (0,0)) ((wk es p e t').2:Nat)=true:=by rw [← hxe];exact h3
   have a1:=nx_eq d2 hWt.lt hWt.pn hoj hWs.lt hWs.pn (fun h=>hne h.symm) (by rw [← hxe];exact h1)
   have a2:=nx_eq d2 hWt.lt hWt.pn hoj hW'.lt hW'.pn (fun h=>by have:=wk_inj hg h2 he hpe (s:=t') (by omega) ht h;omega) hW'.onv
   have:=wk_inj hg h2 he hpe (s:=s) (t:=t') (by omega) (by omega) (a1.symm.trans a2)
   left;omega
  ·have a1:=nx_eq (dg (a:=t) (by omega) hWt.onv hWt.vn) hWt.lt hWt.pn hWt.onv hWs.lt hWs.pn (fun h=>hne h.symm) (by rw [← hy];exact h1)
   have a2:(wk es p e (t+1)).1=(wk es p e s).1:=a1
   rcases Nat.lt_or_ge (t+1) (compL es p e).length with hl|hl
   ·have:=wk_inj hg h2 he hpe hl (by omega) a2
    omega
   ·have hT:t+1=(compL es p e).length:=by omega
    have hb:=wk_back hg h2 he hpe
    rw [← hT,a2] at hb
    have:(wk es p e s).1=(wk es p e 0).1:=hb
    have:=wk_inj hg h2 he hpe (s:=s) (t:=0) (by omega) (by omega) this
    exact .inr ⟨this,hT⟩
 ·have a1:=nx_eq (dg (a:=s) (by omega) hWs.onv hWs.vn) hWs.lt hWs.pn hWs.onv hWt.lt hWt.pn hne (by rw [← hx];exact h3)
  have a2:(wk es p e (s+1)).1=(wk es p e t).1:=a1
  have:=wk_inj hg h2 he hpe (by omega) ht a2
  left;omega
theorem pnt_out {y:Nat}:∀ k,(∀ t,t<k→(c.getD t 0).toNat≠y)→(pnt O c k).getD y 0=O.getD y 0
 | 0,_=>rfl
 | k+1,h=>by
  rw [pnt,getD_set_ne (h k (by omega))]
  exact pnt_out k fun t ht=>h t (by omega)
theorem pnt_in {y t:Nat} (hy:y<O.length) (ht:(c.getD t 0).toNat=y) (hn:∀ s,s<c.length→s≠t→(c.getD s 0).toNat≠y):∀ k,t<k→k≤c.length→(pnt O c k).getD y 0=1+((t%2:Nat):Int)
 | 0,h,_=>absurd h (by omega)
 | k+1,h,hk=>by
  rw [pnt]
  by_cases hkt:k=t
  ·rw [hkt,ht,getD_set_self (by rw [pnt_length];exact hy)]
  ·rw [getD_set_ne (hn k (by omega) hkt)]
   exact pnt_in hy ht hn k (by omega) (by omega)
theorem pntAll_out {y:Nat}:∀ i,(∀ j,j<i→∀ t,t<(cs.getD j []).length→((cs.getD j []).getD t 0).toNat≠y)→(pntAll O cs i).getD y 0=O.getD y 0
 | 0,_=>rfl
 | i+1,h=>by
  rw [pntAll,pnt_out _ (h i (by omega))]
  exact pntAll_out i fun j hj=>h j (by omega)
theorem pntAll_in {y j t:Nat} (hy:y<O.length) (hlt:t<(cs.getD j []).length) (ht:((cs.getD j []).getD t 0).toNat=y) (hn:∀ s,s<(cs.getD j []).length→s≠t→((cs.getD j []).getD s 0).toNat≠y):∀ i,j<i→(∀ j',j'<i→j'≠j→∀ t,t<(cs.getD j' []).length→((cs.getD j' []).getD t 0).toNat≠y)→(pntAll O cs i).getD y 0=1+((t%2:Nat):Int)
 | 0,h,_=>absurd h (by omega)
 | i+1,h,ho=>by
  rw [pntAll]
  by_cases hij:i=j
  ·subst hij
   exact pnt_in (by rw [pntAll_length];exact hy) ht hn _ hlt (Nat.le_refl _)
  ·rw [pnt_out _ (ho i (by omega) hij)]
   exact pntAll_in hy hlt ht hn i (by omega) fun j' hj'=>ho j' (by omega)
theorem wkL_get {t:Nat} {T:Nat} (h:t<T):(wkL es p e T).getD t 0=((wk es p e t).1:Int):=by
 rw [getD_of (by rw [wkL_length];exact h)]
 unfold wkL
 rw [List.getElem_map,List.getElem_range]
theorem ldr_nodup (k:Nat):(ldr es p k).Nodup:=by
 unfold ldr;exact List.Pairwise.filter _ List.nodup_range
theorem lead_uniq {a b:Nat} (ha:a<es.length∧p a=true∧cLeadB es p a=true) (hb:b<es.length∧p b=true∧cLeadB es p b=true) (h:Rch (eAdj es p) a b):a=b:=by
 rcases Nat.lt_trichotomy a b with h'|h'|h'
 ·exact absurd h (cLeadB_iff.1 hb.2.2 a h' ha.2.1)
 ·exact h'
 ·exact absurd (eRch_symm h ⟨ha.1,ha.2.1⟩) (cLeadB_iff.1 ha.2.2 b h' hb.2.1)
theorem col_cyc (hg:IsG n es) (h2:Deg2 n es p) (hO:O.length=es.length) (he:e<es.length∧p e=true∧cLeadB es p e=true) {t:Nat} (ht:t<(compL es p e).length):(pntAll O (cycW es p es.length) (cycW es p es.length).length).getD (wk es p e t).1 0=1+((t%2:Nat):Int):=by
 have hcs:=cycW_ldr (es:=es) (p:=p) es.length
 have hl:(cycW es p es.length).length=(ldr es p es.length).length:=by rw [hcs,List.length_map]
 have hget:∀ j (hj:j<(ldr es p es.length).length),(cycW es p es.length).getD j []=wkL es p (ldr es p es.length)[j] (compL es p (ldr es p es.length)[j]).length:=fun j hj=>by
  rw [getD_of (by omega)]
  simp only [hcs,List.getElem_map]
 obtain ⟨j,hj,hje⟩:=List.getElem_of_mem (mem_ldr.2 he)
 have hW:=wk_walk2 hg h2 he.1 he.2.1 t (by omega)
 have hgj:=hget j hj
 rw [hje] at hgj
 refine pntAll_in (j:=j) (by rw [hO];exact hW.lt) (by rw [hgj,wkL_length];exact ht) (by rw [hgj,wkL_get ht,Int.toNat_natCast]) (fun s hs hst=>?_) _ (by omega) fun j' hj' hne t' ht'=>?_
 ·rw [hgj,wkL_length] at hs
  rw [hgj,wkL_get hs,Int.toNat_natCast]
  exact fun h=>hst (wk_inj hg h2 he.1 he.2.1 hs ht h)
 ·have hj2:j'<(ldr es p es.length).length:=by omega
  have hg':=hget j' hj2
  have hm':=mem_ldr.1 (List.getElem_mem hj2)
  rw [hg',wkL_length] at ht'
  rw [hg',wkL_get ht',Int.toNat_natCast]
  intro h
  have hW':=wk_walk2 hg h2 hm'.1 hm'.2.1 t' (by omega)
  have r1:=hW'.rch
  rw [h] at r1
  have:(ldr es p es.length)[j']=e:=lead_uniq hm' he (r1.trans (eRch_symm hW.rch ⟨he.1,he.2.1⟩))
  rw [← hje] at this
  exact hne ((List.getElem_inj (ldr_nodup es.length)).1 this)
theorem col_mat (hg:IsG n es) (h2:Deg2 n es p) {y:Nat} (hp:p y=false):(pntAll O (cycW es p es.length) (cycW es p es.length).length).getD y 0=O.getD y 0:=by
 have hcs:=cycW_ldr (es:=es) (p:=p) es.length
 refine pntAll_out _ fun j hj t ht=>?_
 have hj2:j<(ldr es p es.length).length:=by rw [hcs,List.length_map] at hj;exact hj
 have hgj:(cycW es p es.length).getD j []=wkL es p (ldr es p es.length)[j] (compL es p (ldr es p es.length)[j]).length:=by
  rw [getD_of hj]
  simp only [hcs,List.getElem_map]
 have hm':=mem_ldr.1 (List.getElem_mem hj2)
 rw [hgj,wkL_length] at ht
 rw [hgj,wkL_get ht,Int.toNat_natCast]
 intro h
 have hW':=wk_walk2 hg h2 hm'.1 hm'.2.1 t (by omega)
 have:=hW'.pn
 rw [h,hp] at this;cases this
theorem oddSum_zero:∀ {L:List Nat},oddSum L=0→∀ x∈L,x%2=0
 | [],_,x,hx=>by cases hx
 | a::L,h,x,hx=>by
  unfold oddSum at h
  rw [List.map_cons,List.sum_cons] at h
  rcases List.mem_cons.1 hx with rfl|hx
  ·omega
  ·exact oddSum_zero (L:=L) (by unfold oddSum;omega) x hx
theorem zero_oddSum:∀ {L:List Nat},(∀ x∈L,x%2=0)→oddSum L=0
 | [],_=>rfl
 | a::L,h=>by
  unfold oddSum
  rw [List.map_cons,List.sum_cons]
  have h1:=h a (by simp)
  have h2:=zero_oddSum (L:=L) fun x hx=>h x (by simp [hx])
  unfold oddSum at h2
  omega
theorem mem_lens {x:Nat}:x∈lensTo es p es.length↔∃ e,(e<es.length∧p e=true∧cLeadB es p e=true)∧x=(compL es p e).length:=by
 rw [← cycW_lens,cycW_ldr,List.map_map,List.mem_map]
 constructor
 ·rintro ⟨e,he,rfl⟩
  exact ⟨e,mem_ldr.1 he,by simp [wkL_length]⟩
 ·rintro ⟨e,he,rfl⟩
  exact ⟨e,mem_ldr.2 he,by simp [wkL_length]⟩
theorem lead_get {y:Nat} (hy:y<es.length) (hp:p y=true):∃ e,(e<es.length∧p e=true∧cLeadB es p e=true)∧Rch (eAdj es p) e y:=by
 by_cases h:cLead es p y
 ·exact ⟨y,⟨hy,hp,cLeadB_iff.2 h⟩,.refl⟩
 ·obtain ⟨j,h1,h2,h3,h4⟩:=lead_of hp h
  exact ⟨j,⟨by omega,h2,cLeadB_iff.2 h3⟩,h4⟩
theorem wk_time (hg:IsG n es) (h2:Deg2 n es p) (he:e<es.length) (hpe:p e=true) {y:Nat} (h:Rch (eAdj es p) e y):∃ t,t<(compL es p e).length∧(wk es p e t).1=y:=by
 have hm:=(wkL_all hg h2 he hpe y).2 h
 unfold wkL at hm
 obtain ⟨t,ht,h⟩:=List.mem_map.1 hm
 rw [List.mem_range] at ht
 exact ⟨t,ht,by omega⟩
theorem one_two (ho:OneAt n es l) {i j x:Nat} (hij:i≠j) (hi:(i:Int)∈l) (hj:(j:Int)∈l) (h1:on (es.getD i (0,0)) x=true) (h2:on (es.getD j (0,0)) x=true) (hx:(x:Int)<n):False:=by
 have:=nodup_sub (l:=[(i:Int),(j:Int)]) (m:=l.filter fun i=>on (es.getD i.toNat (0,0)) x) (by simp;omega) fun y hy=>by
  simp only [List.mem_cons,List.not_mem_nil,or_false] at hy
  rcases hy with rfl|rfl
  ·exact List.mem_filter.2 ⟨hi,by rw [Int.toNat_natCast];exact h1⟩
  ·exact List.mem_filter.2 ⟨hj,by rw [Int.toNat_natCast];exact h2⟩
 have h:=ho x hx
 unfold degC at h
 rw [h] at this
 simp at this
theorem share_nat (hg:IsG n es) {i j:Nat} (hi:i<es.length) (h:share (es.getD i (0,0)) (es.getD j (0,0))):∃ x:Nat,(x:Int)<n∧on (es.getD i (0,0)) x=true∧on (es.getD j (0,0)) x=true:=by
 obtain ⟨v,h1,h2⟩:=h
 obtain ⟨a,b,e1,e2,e3⟩:=edge_ends hg hi
 have hv:0≤v∧v<n:=by
  rw [e1] at h1
  unfold on at h1
  simp only [Bool.or_eq_true,beq_iff_eq] at h1
  omega
 obtain ⟨x,rfl⟩:∃ x:Nat,v=x:=⟨v.toNat,by omega⟩
 exact ⟨x,hv.2,h1,h2⟩
theorem paint_isC (hg:IsG n es) (hs:IsS l es.length) (ho:OneAt n es l) (h0:oddN es l=0):IsC es (pntAll (List.replicate es.length 0) (cycW es (leftP l) es.length) (cycW es (leftP l) es.length).length)∧∀ x∈l,(pntAll (List.replicate es.length 0) (cycW es (leftP l) es.length) (cycW es (leftP l) es.length).length).getD x.toNat 0=0:=by
 have h2:Deg2 n es (leftP l):=fun x hx _=>left_deg hg hs ho hx
 have ev:=oddSum_zero (show oddSum (lensTo es (leftP l) es.length)=0 from h0)
 obtain ⟨C,hC⟩:∃ C,C=pntAll (List.replicate es.length 0) (cycW es (leftP l) es.length) (cycW es (leftP l) es.length).length:=⟨_,rfl⟩
 rw [← hC]
 have hCl:C.length=es.length:=by rw [hC,pntAll_length,List.length_replicate]
 have cyc:∀ {e t:Nat},(e<es.length∧leftP l e=true∧cLeadB es (leftP l) e=true)→t<(compL es (leftP l) e).length→C.getD (wk es (leftP l) e t).1 0=1+((t%2:Nat):Int):=fun he ht=>by
  rw [hC];exact col_cyc hg h2 (by simp) he ht
 have mat:∀ {y:Nat},leftP l y=false→C.getD y 0=0:=fun {y} hp=>by
  rw [hC,col_mat hg h2 hp]
  by_cases hy:y<es.length <;> simp [List.getD,List.getElem?_replicate,hy]
 have pos:∀ {y:Nat},y<es.length→leftP l y=true→∃ t:Nat,C.getD y 0=1+((t%2:Nat):Int):=fun {y} hy hp=>by
  obtain ⟨e,he,hr⟩:=lead_get hy hp
  obtain ⟨t,ht,rfl⟩:=wk_time hg h2 he.1 he.2.1 hr
  exact ⟨t,cyc he ht⟩
 have inl:∀ {y:Nat},leftP l y=false→(y:Int)∈l:=fun {y} hp=>by
  unfold leftP at hp
  exact (bitB_mem hs y).1 (by simpa using hp)
 refine ⟨⟨hCl,fun x hx=>?_,fun j hj i hij hsh=>?_⟩,fun x hx=>?_⟩
 ·obtain ⟨y,hy,rfl⟩:=List.getElem_of_mem hx
  rw [← getD_of (d:=0) hy]
  cases hp:leftP l y with
  | false=>rw [mat hp];omega
  | true=>obtain ⟨t,ht⟩:=pos (by omega) hp;rw [ht];omega
 ·obtain ⟨x,hx,o1,o2⟩:=share_nat hg (by omega) hsh
  cases hpi:leftP l i with
  | false=>
   rw [mat hpi]
   cases hpj:leftP l j with
   | false=>exact (one_two ho (by omega) (inl hpi) (inl hpj) o1 o2 hx).elim
   | true=>obtain ⟨t,ht⟩:=pos hj hpj;rw [ht];omega
  | true=>
   cases hpj:leftP l j with
   | false=>obtain ⟨t,ht⟩:=pos (show i<es.length by omega) hpi;rw [ht,mat hpj];omega
   | true=>
    obtain ⟨e,he,hr⟩:=lead_get (show i<es.length by omega) hpi
    have hr2:Rch (eAdj es (leftP l)) e j:=.step hr ⟨hj,hpj,hsh⟩
    obtain ⟨s,hs',es1⟩:=wk_time hg h2 he.1 he.2.1 hr
    obtain ⟨t,ht',et1⟩:=wk_time hg h2 he.1 he.2.1 hr2
    have hT:=ev _ (mem_lens.2 ⟨e,he,rfl⟩)
    rw [← es1,← et1,cyc he hs',cyc he ht']
    rw [← es1] at o1
    rw [← et1] at o2
    rcases Nat.lt_trichotomy s t with h|h|h
    ·rcases wk_adj hg h2 he.1 he.2.1 h ht' o1 o2 with h'|h' <;> omega
    ·subst h;omega
    ·rcases wk_adj hg h2 he.1 he.2.1 h hs' o2 o1 with h'|h' <;> omega
 ·have hr:=hs.range x hx
  have:leftP l x.toNat=false:=by
   unfold leftP
   rw [Bool.not_eq_false',bitB_mem hs]
   rw [show ((x.toNat:Nat):Int)=x by omega];exact hx
  exact mat this
end Go.Proofs
namespace Go.Proofs
open Go.Abs

variable {H G:AHeap} {v u f w:Value} {l m c:List Int} {es fs:List (Int × Int)} {K:Value→AHeap→Prop} {ls L:List (List Int)} {bm:Nat}

end Go.Proofs
namespace Go.Proofs
open Go.Abs

variable {l m c:List Int} {es fs:List (Int × Int)} {ls L:List (List Int)} {n:Int}

theorem filtB_and (f p:Nat→Bool):∀ k,filtB (fun j=>f j&&p j) k=(filtB f k).filter fun i=>p i.toNat
 | 0=>rfl
 | k+1=>by
  rw [filtB_succ,filtB_succ,List.filter_append,filtB_and f p k]
  cases hf:f k <;> cases hp:p k <;> simp [hp]
theorem list3 {α:Type} {l:List α} (h:l.length=3):∃ a b c,l=[a,b,c]:=by
 match l,h with
 | [a,b,c],_=>exact ⟨a,b,c,rfl⟩
theorem col_deg (hg:IsG n es) (hc:IsC es c) {w:Nat} (hw:(w:Int)<n) {x:Int} (hx:0≤x∧x≤2):degB es (fun j=>c.getD j 0==x) w=1:=by
 have h3:=hg.three (v:=(w:Int)) (by omega) hw
 have ha:Asc (atL es (w:Int)):=filtB_asc _ _
 obtain ⟨i,j,k,e⟩:=list3 h3
 have hd:degB es (fun j=>c.getD j 0==x) w=((atL es (w:Int)).filter fun i=>c.getD i.toNat 0==x).length:=by
  unfold degB
  rw [filtB_and];rfl
 rw [hd,e]
 rw [e] at ha
 unfold Asc at ha
 simp only [List.pairwise_cons,List.mem_cons,List.not_mem_nil,or_false,forall_eq_or_imp,forall_eq] at ha
 have mem:∀ y∈atL es (w:Int),∃ q:Nat,y=q∧q<es.length∧on (es.getD q (0,0)) w=true:=fun y hy=>mem_atL.1 hy
 obtain ⟨i',hi,hi2,hi3⟩:=mem i (by rw [e];simp)
 obtain ⟨j',hj,hj2,hj3⟩:=mem j (by rw [e];simp)
 obtain ⟨k',hk,hk2,hk3⟩:=mem k (by rw [e];simp)
 have c1:=hc.col j' hj2 i' (by omega) ⟨w,hi3,hj3⟩
 have c2:=hc.col k' hk2 i' (by omega) ⟨w,hi3,hk3⟩
 have c3:=hc.col k' hk2 j' (by omega) ⟨w,hj3,hk3⟩
 have r1:=hc.get i'
 have r2:=hc.get j'
 have r3:=hc.get k'
 subst hi;subst hj;subst hk
 have:(c.getD i' 0=x∧c.getD j' 0≠x∧c.getD k' 0≠x)∨(c.getD i' 0≠x∧c.getD j' 0=x∧c.getD k' 0≠x)∨(c.getD i' 0≠x∧c.getD j' 0≠x∧c.getD k' 0=x):=by omega
 rcases this with ⟨a1,a2,a3⟩|⟨a1,a2,a3⟩|⟨a1,a2,a3⟩
 ·simp only [List.filter_cons,List.filter_nil,Int.toNat_natCast,beq_iff_eq.2 a1,beq_eq_false_iff_ne.2 a2,beq_eq_false_iff_ne.2 a3];rfl
 ·simp only [List.filter_cons,List.filter_nil,Int.toNat_natCast,beq_eq_false_iff_ne.2 a1,beq_iff_eq.2 a2,beq_eq_false_iff_ne.2 a3];rfl
 ·simp only [List.filter_cons,List.filter_nil,Int.toNat_natCast,beq_eq_false_iff_ne.2 a1,beq_eq_false_iff_ne.2 a2,beq_iff_eq.2 a3];rfl
noncomputable def chB (es:List (Int × Int)) (c:List Int) (e:Nat) (b:Int) (j:Nat):Bool:=rchB (eAdj es (chP c e b)) e j
theorem chB_in {e:Nat} {b:Int} (he:e<es.length) {j:Nat} (h:chB es c e b j=true):j<es.length∧(c.getD j 0=c.getD e 0∨c.getD j 0=b):=by
 have h0:chP c e b e=true:=by unfold chP;simp
 have:=eRch_in (rchB_iff.1 h) ⟨he,h0⟩
 refine ⟨this.1,?_⟩
 have h2:=this.2
 unfold chP at h2
 simpa using h2
theorem chain_even (hg:IsG n es) (hc:IsC es c) {e:Nat} {b:Int} (he:e<es.length) (hb:0≤b∧b≤2) (hne:b≠c.getD e 0):cn (chB es c e b) es.length%2=0:=by
 have n0:=hg.ed.lo
 obtain ⟨a,ha⟩:∃ a,a=c.getD e 0:=⟨_,rfl⟩
 have ra:0≤a∧a≤2:=by rw [ha];exact hc.get e
 have half:∀ x,(x=a∨x=b)→2*cn (fun j=>chB es c e b j&&c.getD j 0==x) es.length=cn (fun w=>@decide (∃ j,j<es.length∧chB es c e b j=true∧on (es.getD j (0,0)) w=true) (Classical.propDecidable _)) n.toNat:=by
  intro x hx
  have rx:0≤x∧x≤2:=by rcases hx with rfl|rfl <;> assumption
  have h:=hands hg.endsIn (fun w=>@decide (∃ j,j<es.length∧chB es c e b j=true∧on (es.getD j (0,0)) w=true) (Classical.propDecidable _)) (fun j=>chB es c e b j&&c.getD j 0==x)
  have e1:∀ w,w<n.toNat→(if @decide (∃ j,j<es.length∧chB es c e b j=true∧on (es.getD j (0,0)) w=true) (Classical.propDecidable _) then degB es (fun j=>chB es c e b j&&c.getD j 0==x) w else 0)=if @decide (∃ j,j<es.length∧chB es c e b j=true∧on (es.getD j (0,0)) w=true) (Classical.propDecidable _) then 1 else 0:=by
   intro w hw
   by_cases hA:∃ j,j<es.length∧chB es c e b j=true∧on (es.getD j (0,0)) w=true
   ·rw [if_pos (by simpa using hA),if_pos (by simpa using hA)]
    obtain ⟨j,j1,j2,j3⟩:=hA
    rw [← col_deg hg hc (w:=w) (by omega) rx]
    refine Nat.le_antisymm (deg_le fun q _ hq=>?_) ?_
    ·rw [Bool.and_eq_true] at hq;exact hq.2
    ·rw [degB_cn,degB_cn]
     refine cn_le fun q hq h=>?_
     rw [Bool.and_eq_true] at h ⊢
     refine ⟨h.1,?_⟩
     rw [Bool.and_eq_true]
     refine ⟨?_,h.2⟩
     have hqx:=beq_iff_eq.1 h.2
     refine rchB_iff.2 (.step (rchB_iff.1 j2) ⟨hq,?_,w,j3,h.1⟩)
     unfold chP
     rcases hx with rfl|rfl
     ·rw [hqx,← ha];simp
     ·rw [hqx];simp
   ·rw [if_neg (by simpa using hA),if_neg (by simpa using hA)]
  have e2:∀ j,j<es.length→(if (chB es c e b j&&c.getD j 0==x)=true then (if @decide (∃ q,q<es.length∧chB es c e b q=true∧on (es.getD q (0,0)) ((es.getD j (0,0)).1.toNat:Nat)=true) (Classical.propDecidable _) then 1 else 0)+(if @decide (∃ q,q<es.length∧chB es c e b q=true∧on (es.getD q (0,0)) ((es.getD j (0,0)).2.toNat:Nat)=true) (Classical.propDecidable _) then 1 else 0) else 0)=2*(if (chB es c e b j&&c.getD j 0==x)=true then 1 else 0):=by
   intro j hj
   obtain ⟨p,q,hpq,_⟩:=hg.endsIn.get j hj
   by_cases hjc:(chB es c e b j&&c.getD j 0==x)=true
   ·rw [if_pos hjc,if_pos hjc]
    have h1:=(Bool.and_eq_true _ _▸hjc).1
    have o1:∃ q,q<es.length∧chB es c e b q=true∧on (es.getD q (0,0)) ((es.getD j (0,0)).1.toNat:Nat)=true:=⟨j,hj,h1,by rw [hpq];simp [on]⟩
    have o2:∃ q,q<es.length∧chB es c e b q=true∧on (es.getD q (0,0)) ((es.getD j (0,0)).2.toNat:Nat)=true:=⟨j,hj,h1,by rw [hpq];simp [on]⟩
    rw [if_pos (by simpa using o1),if_pos (by simpa using o2)]
   ·rw [if_neg hjc,if_neg hjc]
  have h1:=(sm_congr e1).symm.trans (h.trans (sm_congr e2))
  rw [sm_mul,sm_if,sm_if] at h1
  exact h1.symm
 have ha2:=half a (.inl rfl)
 have hb2:=half b (.inr rfl)
 have hsum:cn (chB es c e b) es.length=cn (fun j=>chB es c e b j&&c.getD j 0==a) es.length+cn (fun j=>chB es c e b j&&c.getD j 0==b) es.length:=by
  rw [← cn_add fun j _=>?_]
  ·refine cn_congr fun j hj=>?_
   rw [Bool.eq_iff_iff,Bool.or_eq_true,Bool.and_eq_true,Bool.and_eq_true,beq_iff_eq,beq_iff_eq]
   constructor
   ·intro h
    rcases (chB_in he h).2 with q|q
    ·exact .inl ⟨h,by rw [q,ha]⟩
    ·exact .inr ⟨h,q⟩
   ·rintro (h|h) <;> exact h.1
  ·rw [Bool.and_eq_true,Bool.and_eq_true,beq_iff_eq,beq_iff_eq]
   rintro ⟨h1,h2⟩
   exact hne (by rw [← h2.2,h1.2,ha])
 omega
end Go.Proofs
namespace Go.Proofs
open Go.Abs

variable {H G:AHeap} {v u f:Value} {l m c D:List Int} {es fs:List (Int × Int)} {K:Value→AHeap→Prop} {A A':Nat→Prop} {B:Nat} {ls ms:List (List Int)}

end Go.Proofs
namespace Go.Proofs
open Go.Abs

variable {H G:AHeap} {v u f:Value} {l m c D:List Int} {es fs:List (Int × Int)} {K:Value→AHeap→Prop} {A A':Nat→Prop} {B:Nat} {ls ms:List (List Int)}

end Go.Proofs
namespace Go.Proofs
open Go.Abs

variable {H G:AHeap} {v u f:Value} {l m c D:List Int} {es fs:List (Int × Int)} {K:Value→AHeap→Prop} {A A':Nat→Prop} {B:Nat} {ls ms:List (List Int)}

end Go.Proofs
namespace Go.Proofs
open Go.Abs

variable {H G:AHeap} {v u f:Value} {l m c D:List Int} {es fs:List (Int × Int)} {K:Value→AHeap→Prop}

theorem implOdd_ok {n:Int} (hT:Tab H) (h:Edges H v es) (hl:es.length≤1048576) (k:∀ G,H.le G→K (.tuple ⟨[.int .i64 (odVal n es),.int .i64 (bmCode n es)]⟩) G):AC Tryz.prog T0 16 [.agg ⟨[.int .i64 n,v]⟩] H K:=by
 apply F16.ac
 unfold F16.B8
 refine newK_f (all_iv (edges_one' h)) fun H1 l1 _ o1=>?_
 unfold F16.B7
 refine ldI_own o1 rfl (ld1_own o1 rfl (graphCode_ok (b:=true) (h.le l1) hl fun H2 l2=>asI_mk ?_))
 have l12:=AHeap.le_trans l1 l2
 have o2:=o1.le l2
 have e:(if IsG n es then (if true=true then 0 else 2) else 1:Int)=grCode n es:=by unfold grCode;simp
 rw [e]
 unfold F16.B6
 refine pif_cases (fun hs=>?_) fun hs=>?_
 ·have hg:¬ IsG n es:=fun h=>by unfold grCode at hs;rw [if_pos h] at hs;simp at hs
  have e0:grCode n es=1:=by unfold grCode;rw [if_neg hg]
  have e:bmCode n es=1:=by unfold bmCode;rw [if_neg hg]
  unfold F16.B5
  have k:=k _ l12
  unfold odVal at k
  rw [e] at k
  rw [e0]
  exact k
 have hg:IsG n es:=by
  unfold grCode at hs
  by_cases h:IsG n es
  ·exact h
  ·rw [if_neg h] at hs;simp at hs
 unfold F16.B4
 refine ldI_own o2 rfl (ld1_own o2 rfl (best_ok (hT.le l12) (h.le l12) hg fun H3 l3=>tup3_mk (asI_mk (asI_mk (asB_mk ?_)))))
 have l13:=AHeap.le_trans l12 l3
 unfold F16.B3
 refine pif_cases (fun hs=>?_) fun hs=>?_
 ·have he:mats n es=[]:=by simpa using hs
  have e:bmCode n es=4:=by unfold bmCode;rw [if_pos hg,if_pos he]
  unfold F16.B2
  have k:=k _ l13
  unfold odVal at k
  rw [e] at k
  exact k
 ·have he:mats n es≠[]:=by simpa using hs
  have e:bmCode n es=0:=by unfold bmCode;rw [if_pos hg,if_neg he]
  unfold F16.B1
  have k:=k _ l13
  unfold odVal at k
  rw [e,if_pos rfl] at k
  exact k
end Go.Proofs
namespace Go.Proofs
open Go.Abs

variable {es:List (Int × Int)} {p:Nat→Bool} {l c O:List Int} {L:List (List Int)} {n:Int} {e:Nat}

theorem bitB_filt {f:Nat→Bool} {m j:Nat}:bitB (filtB f m) j=true↔j<m∧f j=true:=by
 rw [bitB_mem (show IsS (filtB f m) (m:Nat) from asc_isS (filtB_asc f m) fun y hy=>by obtain ⟨q,rfl,h1,_⟩:=mem_filtB.1 hy;omega),mem_filtB]
 constructor
 ·rintro ⟨q,h1,h2,h3⟩
  obtain rfl:j=q:=by omega
  exact ⟨h2,h3⟩
 ·rintro ⟨h2,h3⟩;exact ⟨j,rfl,h2,h3⟩
theorem class_one (hg:IsG n es) (hc:IsC es c) {x:Int} (hx:0≤x∧x≤2):IsS (filtB (fun j=>c.getD j 0==x) es.length) es.length∧OneAt n es (filtB (fun j=>c.getD j 0==x) es.length):=by
 refine ⟨asc_isS (filtB_asc _ _) fun y hy=>by obtain ⟨q,rfl,h1,_⟩:=mem_filtB.1 hy;omega,fun w hw=>?_⟩
 have h:=col_deg hg hc hw hx
 unfold degB at h
 unfold degC
 rw [← filtB_and (fun j=>c.getD j 0==x) (fun j=>on (es.getD j (0,0)) w)]
 rw [← h]
 congr 2
 funext j
 rw [Bool.and_comm]
theorem class_odd (hg:IsG n es) (hc:IsC es c):oddN es (filtB (fun j=>c.getD j 0==0) es.length)=0:=by
 refine zero_oddSum fun x hx=>?_
 obtain ⟨e,⟨he,hp,_⟩,rfl⟩:=mem_lens.1 hx
 have lp:∀ j,j<es.length→(leftP (filtB (fun j=>c.getD j 0==0) es.length) j=true↔c.getD j 0≠0):=fun j hj=>by
  unfold leftP
  rw [Bool.not_eq_true',← Bool.not_eq_true,bitB_filt]
  simp [hj]
 have hce:=(lp e he).1 hp
 have hr:=hc.get e
 have hev:=chain_even hg hc he (b:=3-c.getD e 0) (by omega) (by omega)
 have hadj:eAdj es (leftP (filtB (fun j=>c.getD j 0==0) es.length))=eAdj es (chP c e (3-c.getD e 0)):=by
  refine eAdj_congr fun j hj=>?_
  rw [Bool.eq_iff_iff,lp j hj]
  have hrj:=hc.get j
  unfold chP
  simp only [Bool.or_eq_true,beq_iff_eq]
  omega
 unfold compL
 rw [hadj,cn_filt]
 exact hev
theorem has_iff (hg:IsG n es):(∃ c,IsC es c)↔∃ l,IsS l es.length∧OneAt n es l∧oddN es l=0:=by
 constructor
 ·rintro ⟨c,hc⟩
  obtain ⟨h1,h2⟩:=class_one hg hc (x:=0) (by omega)
  exact ⟨_,h1,h2,class_odd hg hc⟩
 ·rintro ⟨l,h1,h2,h3⟩
  exact ⟨_,(paint_isC hg h1 h2 h3).1⟩
theorem best_fold:∀ (L:List (List Int)) (b:List Int × Int),0≤b.2→(L.foldl (bestS es) b=b∨((L.foldl (bestS es) b).1∈L∧(L.foldl (bestS es) b).2=oddN es (L.foldl (bestS es) b).1))∧(L.foldl (bestS es) b).2≤b.2∧∀ l∈L,(L.foldl (bestS es) b).2≤oddN es l
 | [],b,h=>⟨.inl rfl,Int.le_refl _,fun l hl=>by cases hl⟩
 | a::L,b,h=>by
  rw [List.foldl_cons]
  have hs:bestS es b a=b∧b.2≤oddN es a∨bestS es b a=(a,(oddN es a:Int))∧(oddN es a:Int)<b.2:=by
   unfold bestS
   split
   ·rename_i h';exact .inr ⟨rfl,by omega⟩
   ·rename_i h';exact .inl ⟨rfl,by omega⟩
  rcases hs with ⟨e,hle⟩|⟨e,hlt⟩
  ·rw [e]
   obtain ⟨h1,h2,h3⟩:=best_fold L b h
   refine ⟨h1.elim .inl fun h=>.inr ⟨by simp [h.1],h.2⟩,h2,fun l hl=>?_⟩
   rcases List.mem_cons.1 hl with rfl|hl
   ·omega
   ·exact h3 l hl
  ·rw [e]
   obtain ⟨h1,h2,h3⟩:=best_fold L (a,(oddN es a:Int)) (by show (0:Int)≤(oddN es a:Int);omega)
   have h2:_≤(oddN es a:Int):=h2
   refine ⟨.inr (h1.elim (fun h=>by rw [h];exact ⟨by simp,rfl⟩) fun h=>⟨by simp [h.1],h.2⟩),by omega,fun l hl=>?_⟩
   rcases List.mem_cons.1 hl with rfl|hl
   ·exact h2
   ·exact h3 l hl
theorem bestF_spec (h:L≠[]):(bestF es L).1∈L∧(bestF es L).2=oddN es (bestF es L).1∧∀ l∈L,(bestF es L).2≤oddN es l:=by
 cases L with
 | nil=>exact absurd rfl h
 | cons a L=>
  have e:bestF es (a::L)=L.foldl (bestS es) (a,(oddN es a:Int)):=by
   unfold bestF
   rw [List.foldl_cons]
   congr 1
  rw [e]
  obtain ⟨h1,h2,h3⟩:=best_fold L (a,(oddN es a:Int)) (by show (0:Int)≤(oddN es a:Int);omega)
  have h2:_≤(oddN es a:Int):=h2
  refine ⟨h1.elim (fun h=>by rw [h];simp) fun h=>by simp [h.1],h1.elim (fun h=>by rw [h]) fun h=>h.2,fun l hl=>?_⟩
  rcases List.mem_cons.1 hl with rfl|hl
  ·exact h2
  ·exact h3 l hl
theorem bm_zero (h:bmCode n es=0):IsG n es∧mats n es≠[]:=by
 unfold bmCode at h
 by_cases hg:IsG n es
 ·rw [if_pos hg] at h
  by_cases hm:mats n es=[]
  ·rw [if_pos hm] at h;cases h
  ·exact ⟨hg,hm⟩
 ·rw [if_neg hg] at h;cases h
theorem bm_facts (h:bmCode n es=0):IsM n es (bmList n es)∧IsS (bmList n es) es.length∧OneAt n es (bmList n es)∧odVal n es=oddN es (bmList n es)∧(odVal n es=0↔∃ c,IsC es c):=by
 obtain ⟨hg,hm⟩:=bm_zero h
 have e1:bmList n es=(bestF es (mats n es)).1:=by unfold bmList;rw [if_pos h]
 have e2:odVal n es=(bestF es (mats n es)).2:=by unfold odVal;rw [if_pos h]
 obtain ⟨h1,h2,h3⟩:=bestF_spec (es:=es) hm
 rw [e1,e2]
 obtain ⟨r1,r2,r3⟩:=mats_row2 hg _ h1
 refine ⟨one_isM hg r1 r3,r1,r3,h2,?_⟩
 rw [has_iff hg]
 constructor
 ·intro h0
  exact ⟨_,r1,r3,by omega⟩
 ·rintro ⟨l,g1,g2,g3⟩
  have:=h3 l (mats_all hg g1 g2)
  rw [g3] at this
  omega
-- covers
end Go.Proofs
namespace Go.Proofs
open Go.Abs

variable {H G G' Hb H0:AHeap} {v u f w:Value} {l m c D:List Int} {es fs:List (Int × Int)} {K:Value→AHeap→Prop} {bs:Nat} {n:Int}

end Go.Proofs
namespace Go.Proofs
open Go.Abs

variable {H G:AHeap} {v u w f:Value} {l:List Int} {es fs:List (Int × Int)} {K:Value→AHeap→Prop} {n:Int}

theorem index64_ok {q:Int→Bool} (h:Ints H v l) (hl:l.length≤4611686018427387904) (hf:∀ x∈l,Cl H f (.int .i64 x) (q x)) (k:∀ r G,H.le G→decide (r≥0)=l.any q→K (.int .i64 r) G) :
 AC Tryz.prog T0 187 [v,f] H K:=by
 apply F187.ac
 unfold F187.B9 F187.B8
 refine h.len ?_
 unfold F187.L2
 refine ⟨fun x0 x1 x7 x8 G=>v=x0∧f=x1∧(l.length:Int)=x7∧H.le G∧∃ n:Nat,x8=n∧n≤l.length∧∀ i:Nat,i<n→q (l.getD i 0)=false,fun _ _ _ x8 _=>l.length-x8.toNat,⟨rfl,rfl,rfl,AHeap.le_refl _,0,rfl,by omega,fun i hi=>absurd hi (by omega)⟩,?_⟩
 rintro x0 x1 x7 x8 G ⟨rfl,rfl,rfl,hG,n,rfl,hn',hp⟩
 unfold F187.B7
 refine pif_cases (fun hb=>?_) fun hb=>?_
 ·have hn:n<l.length:=by have:=of_decide_eq_true hb;omega
  unfold F187.B6 F187.B5
  refine (h.le hG).rd (by omega) (by omega) ?_
  rw [Int.toNat_natCast,getD_of hn]
  refine hf l[n] (List.getElem_mem hn) G hG _ fun G2 hG2=>asB_mk (pif_cases (fun hb=>?_) fun hb=>?_)
  ·unfold F187.B4
   refine k _ _ (AHeap.le_trans hG hG2) ?_
   rw [List.any_eq_true.2 ⟨l[n],List.getElem_mem hn,hb⟩];simp
  ·unfold F187.B3
   rw [wrap_id (by omega) (by omega)]
   refine ⟨⟨rfl,rfl,rfl,AHeap.le_trans hG hG2,n+1,by omega,by omega,fun i hi=>?_⟩,by simp;omega⟩
   by_cases he:i=n
   ·subst he;rw [getD_of hn];exact hb
   ·exact hp i (by omega)
 ·have hge:n=l.length:=by have:=of_decide_eq_false hb;omega
  unfold F187.B1
  refine k _ _ hG ?_
  have:l.any q=false:=by
   rw [List.any_eq_false]
   intro e he
   obtain ⟨i,hi,rfl⟩:=List.getElem_of_mem he
   have:=hp i (by omega)
   rw [getD_of hi] at this;simp [this]
  rw [this];simp
theorem contains64_ok {q:Int→Bool} (h:Ints H v l) (hl:l.length≤4611686018427387904) (hf:∀ x∈l,Cl H f (.int .i64 x) (q x)) (k:∀ G,H.le G→K (.bool (l.any q)) G) :
 AC Tryz.prog T0 146 [v,f] H K:=by
 apply F146.ac
 unfold F146.B2 F146.B1
 refine index64_ok h hl hf fun r G hG hr=>asI_mk ?_
 rw [hr];exact k G hG
def nrB (es:List (Int × Int)) (e f:Nat):Bool:=on (es.getD e (0,0)) (es.getD f (0,0)).1||on (es.getD e (0,0)) (es.getD f (0,0)).2
theorem nrB_iff {e f:Nat}:nrB es e f=true↔share (es.getD e (0,0)) (es.getD f (0,0)):=by
 unfold nrB share
 rw [Bool.or_eq_true]
 constructor
 ·rintro (h|h)
  ·exact ⟨_,h,by unfold on;simp⟩
  ·exact ⟨_,h,by unfold on;simp⟩
 ·rintro ⟨x,h1,h2⟩
  unfold on at h2
  simp only [Bool.or_eq_true,beq_iff_eq] at h2
  rcases h2 with h2|h2
  ·left;rw [h2];exact h1
  ·right;rw [h2];exact h1
theorem nrB_symm (e f:Nat):nrB es e f=nrB es f e:=by
 rw [Bool.eq_iff_iff,nrB_iff,nrB_iff]
 exact ⟨share_symm,share_symm⟩
theorem isNear_ok {e f:Nat} (h:Edges H v es) (he:e<es.length) (hf:f<es.length) (k:∀ G,H.le G→K (.bool (nrB es e f)) G):AC Tryz.prog T0 149 [.agg ⟨[.int .i64 n,v]⟩,.int .i64 (e:Nat),.int .i64 (f:Nat)] H K:=by
 apply F149.ac
 unfold F149.B2
 refine newK_f (all_iv (edges_one' h)) fun H1 l1 n1 o1=>?_
 have h1:=h.le l1
 obtain ⟨eb,eo,hk,c1,c2⟩:=h1.idx (show (0:Int)≤e by omega) (by omega)
 obtain ⟨fb,fo,hk',d1,d2⟩:=h1.idx (show (0:Int)≤f by omega) (by omega)
 simp only [Int.toNat_natCast] at c1 c2 d1 d2
 unfold F149.B1
 refine ld1_own o1 rfl (hk _ (ldI_mk c1 (ldI_mk c2 (ld1_own o1 rfl (hk' _ (ldI_mk d1 (isOn_ok (e:=es.getD e (0,0)) fun G2 l2=>asB_mk (pif_cases (fun hb=>?_) fun hb=>?_))))))))
 ·have:=k G2 (AHeap.le_trans l1 l2)
  unfold nrB at this
  rwa [hb,Bool.true_or] at this
 ·have h2:=h1.le l2
  have o2:=o1.le l2
  have cc1:=AHeap.cell_le l2 c1;have cc2:=AHeap.cell_le l2 c2;have dd2:=AHeap.cell_le l2 d2
  refine ld1_own o2 rfl (hk _ (ldI_mk cc1 (ldI_mk cc2 (ld1_own o2 rfl (hk' _ (ldI_mk dd2 (isOn_ok (e:=es.getD e (0,0)) fun G3 l3=>asB_mk ?_)))))))
  have:=k G3 (AHeap.le_trans l1 (AHeap.le_trans l2 l3))
  unfold nrB at this
  rwa [hb,Bool.false_or] at this
theorem l08Near_ok {e f:Nat} (h:Edges H v es) (he:e<es.length) (hf:f<es.length) (k:∀ G,H.le G→K (.bool (nrB es e f)) G):AC Tryz.prog T0 92 [.agg ⟨[.int .i64 n,v]⟩,.int .i64 (e:Nat),.int .i64 (f:Nat)] H K:=by
 apply F92.ac
 unfold F92.B3
 refine newK_f (all_iv (edges_one' h)) fun H1 l1 n1 o1=>?_
 have h1:=h.le l1
 obtain ⟨eb,eo,hk,c1,c2⟩:=h1.idx (show (0:Int)≤e by omega) (by omega)
 obtain ⟨fb,fo,hk',d1,d2⟩:=h1.idx (show (0:Int)≤f by omega) (by omega)
 simp only [Int.toNat_natCast] at c1 c2 d1 d2
 obtain ⟨a,ha⟩:∃ a,a=es.getD e (0,0):=⟨_,rfl⟩
 obtain ⟨b,hb⟩:∃ b,b=es.getD f (0,0):=⟨_,rfl⟩
 have hnr:nrB es e f=((a.1==b.1)||(a.1==b.2)||(a.2==b.1)||(a.2==b.2)):=by
  unfold nrB on
  rw [← ha,← hb]
  cases (a.1==b.1) <;> cases (a.1==b.2) <;> cases (a.2==b.1) <;> cases (a.2==b.2) <;> rfl
 rw [← ha] at c1 c2
 rw [← hb] at d1 d2
 rw [hnr] at k
 have fin:∀ {x y:Nat} {G:AHeap},H.le G→Own G x 28 [.int .i64 a.1,.int .i64 a.2]→Own G y 28 [.int .i64 b.1,.int .i64 b.2]→F92.B1 K x y G:=fun {x y G} lG oa ob=>by
  have k:=k G lG
  unfold F92.B1
  refine ldI_own oa rfl (ldI_own ob rfl (pif_cases (fun q1=>?_) fun q1=>ldI_own oa rfl (ldI_own ob rfl (pif_cases (fun q2=>?_) fun q2=>ldI_own oa rfl (ldI_own ob rfl (pif_cases (fun q3=>?_) fun q3=>ldI_own oa rfl (ldI_own ob rfl ?_)))))))
  ·rw [q1] at k;simpa using k
  ·rw [q2] at k;simpa using k
  ·rw [q3] at k;simpa using k
  ·rw [q1,q2,q3] at k;simpa using k
 unfold F92.B2
 refine ld1_own o1 rfl (hk _ (ldI_mk c1 (ldI_mk c2 (ld1_own o1 rfl (hk' _ (ldI_mk d1 (ldI_mk d2 ⟨?_,?_⟩)))))))
 ·refine newK_f rfl fun H2 l2 n2 o2=>newK_f rfl fun H3 l3 n3 o3=>stK_f (new:=[.int .i64 a.1,.int .i64 a.2]) (o2.le l3) (by simp) (by simp [Value.oneCell']) rfl fun H4 b4 o4=>?_
  have h14:H1.le H4:=b4.le (AHeap.le_trans l2 l3) (Nat.le_refl _)
  have hne:H2.length≠H1.length:=by omega
  refine ⟨ld1_own (o1.le h14) rfl ⟨rfl,rfl⟩,ldI_mk (AHeap.cell_le h14 d1) (ldI_mk (AHeap.cell_le h14 d2) ⟨rfl,rfl⟩),?_⟩
  refine stK_f (new:=[.int .i64 b.1,.int .i64 b.2]) (b4.own o3 hne) (by simp) (by simp [Value.oneCell']) rfl fun H5 b5 o5=>?_
  have hg2:=l2.1
  exact fin (b5.le (AHeap.le_trans l1 h14) (by have:=l1.1;omega)) (b5.own o4 (fun e=>hne e.symm)) o5
 ·refine newK_f rfl fun H2 l2 n2 o2=>newK_f rfl fun H3 l3 n3 o3=>stK_f (new:=[.int .i64 a.1,.int .i64 a.2]) o3 (by simp) (by simp [Value.oneCell']) rfl fun H4 b4 o4=>?_
  have hg2:=l2.1
  have h14:H1.le H4:=b4.le (AHeap.le_trans l2 l3) (by omega)
  have hne:H1.length≠H2.length:=by omega
  refine ⟨ld1_own (o1.le h14) rfl ⟨rfl,rfl⟩,ldI_mk (AHeap.cell_le h14 d1) (ldI_mk (AHeap.cell_le h14 d2) ⟨rfl,rfl⟩),?_⟩
  refine stK_f (new:=[.int .i64 b.1,.int .i64 b.2]) (b4.own (o2.le l3) hne) (by simp) (by simp [Value.oneCell']) rfl fun H5 b5 o5=>?_
  exact fin (b5.le (AHeap.le_trans l1 h14) (by have:=l1.1;omega)) (b5.own o4 (fun e=>hne e.symm)) o5
def clB (es:List (Int × Int)) (e f:Nat):Bool:=nrB es e f||(List.range es.length).any fun h=>nrB es e h&&nrB es h f
theorem clB_symm (e f:Nat):clB es e f=clB es f e:=by
 unfold clB
 rw [nrB_symm e f]
 congr 1
 rw [Bool.eq_iff_iff,List.any_eq_true,List.any_eq_true]
 constructor
 ·rintro ⟨h,h1,h2⟩
  rw [Bool.and_eq_true] at h2
  exact ⟨h,h1,by rw [Bool.and_eq_true,nrB_symm f h,nrB_symm h e];exact ⟨h2.2,h2.1⟩⟩
 ·rintro ⟨h,h1,h2⟩
  rw [Bool.and_eq_true] at h2
  exact ⟨h,h1,by rw [Bool.and_eq_true,nrB_symm e h,nrB_symm h f];exact ⟨h2.2,h2.1⟩⟩
theorem allEdges_ok (h:Edges H v es) (hl:es.length≤1000000) (k:∀ v' G,H.le G→Fresh H.length G v' 2 1 (LI ((List.range es.length).map Int.ofNat))→K v' G):AC Tryz.prog T0 154 [.agg ⟨[.int .i64 n,v]⟩] H K:=by
 apply F154.ac
 unfold F154.B9
 refine newK_f (all_iv (edges_one' h)) fun H1 l1 n1 o1=>?_
 have h1:=h.le l1
 have hg1:=l1.1
 unfold F154.B8 F154.B7
 refine ld1_own o1 rfl (h1.len ?_)
 unfold F154.L2
 refine ⟨fun x3 x7 x8 G=>(es.length:Int)=x7∧H.le G∧∃ i:Nat,x8=i∧i≤es.length∧Fresh H.length G x3 2 1 (LI ((List.range i).map Int.ofNat)),fun _ _ x8 _=>es.length-x8.toNat,⟨rfl,l1,0,rfl,by omega,.inl ⟨rfl,.inl rfl⟩⟩,?_⟩
 rintro x3 x7 x8 G ⟨rfl,lG,i,rfl,hi,f3⟩
 unfold F154.B6
 refine pif_cases (fun hb=>?_) fun hb=>?_
 ·have hil:i<es.length:=by have:=of_decide_eq_true hb;omega
  unfold F154.B5 F154.B4
  refine f3.sl.pushN E_int (by decide) lG.1 (n:=1) (ys:=[.int .i64 (i:Int)]) rfl rfl (by simp;omega) (by simp) fun v' G2 k2 _ _ f2=>?_
  unfold F154.B3
  rw [wrap_id (by omega) (by omega)]
  refine ⟨⟨rfl,k2.le lG (Nat.le_refl _),i+1,by omega,by omega,?_⟩,by simp;omega⟩
  rw [List.range_succ,List.map_append]
  simpa using f2
 ·have hil:i=es.length:=by have:=of_decide_eq_false hb;omega
  subst hil
  unfold F154.B1
  exact k _ _ lG f3
theorem isClose_ok {e f:Nat} (h:Edges H v es) (hl:es.length≤1000000) (he:e<es.length) (hf:f<es.length) (k:∀ G,H.le G→K (.bool (clB es e f)) G):AC Tryz.prog T0 95 [.agg ⟨[.int .i64 n,v]⟩,.int .i64 (e:Nat),.int .i64 (f:Nat)] H K:=by
 apply F95.ac
 unfold F95.B4
 refine newK_f (all_iv (edges_one' h)) fun H1 l1 n1 o1=>newK_f rfl fun H2 l2 n2 o2=>newK_f rfl fun H3 l3 n3 o3=>?_
 have l03:=AHeap.le_trans l1 (AHeap.le_trans l2 l3)
 have o1:=(o1.le l2).le l3
 have o2:=o2.le l3
 have h3:=h.le l03
 unfold F95.B3
 refine ldI_own o1 rfl (ld1_own o1 rfl (ldI_own o2 rfl (ldI_own o3 rfl (isNear_ok h3 he hf fun G lG=>asB_mk (pif_cases (fun hb=>?_) fun hb=>?_)))))
 ·unfold F95.B2
  have:=k G (AHeap.le_trans l03 lG)
  unfold clB at this
  rwa [hb,Bool.true_or] at this
 ·have o1:=o1.le lG;have o2:=o2.le lG;have o3:=o3.le lG
  have hG:=h3.le lG
  unfold F95.B1
  refine ldI_own o1 rfl (ld1_own o1 rfl (allEdges_ok hG hl fun w G4 l4 f4=>?_))
  refine contains64_ok (q:=fun x=>nrB es e x.toNat&&nrB es x.toNat f) f4.ints (by simp;omega) ?_ ?_
  ·intro x hx G5 l5 K' hK
   refine callV_mk ?_
   obtain ⟨j,hj,rfl⟩:=List.mem_map.1 hx
   rw [List.mem_range] at hj
   have l45:=AHeap.le_trans l4 l5
   apply F155.ac
   unfold F155.B2 F155.B1
   refine asP_mk (ldI_own (o1.le l45) rfl (ld1_own (o1.le l45) rfl (asP_mk (ldI_own (o2.le l45) rfl (isNear_ok (f:=j) (hG.le l45) he hj fun G7 l7=>asB_mk (pif_cases (fun hb=>?_) fun hb=>?_))))))
   ·have l47:=AHeap.le_trans l45 l7
    refine asP_mk (ldI_own (o1.le l47) rfl (ld1_own (o1.le l47) rfl (asP_mk (ldI_own (o3.le l47) rfl (isNear_ok (e:=j) (hG.le l47) hj hf fun G8 l8=>asB_mk ?_)))))
    have:=hK G8 (AHeap.le_trans l7 l8)
    simp only [Int.ofNat_eq_natCast,Int.toNat_natCast] at this
    rwa [hb,Bool.true_and] at this
   ·have:=hK G7 l7
    simp only [Int.ofNat_eq_natCast,Int.toNat_natCast] at this
    rwa [hb,Bool.false_and] at this
  ·intro G6 l6
   refine asB_mk ?_
   have:=k G6 (AHeap.le_trans l03 (AHeap.le_trans lG (AHeap.le_trans l4 l6)))
   unfold clB at this
   rw [hb,Bool.false_or] at this
   rw [List.any_map]
   exact this
theorem l08Close_ok {e f:Nat} (h:Edges H v es) (hl:es.length≤1000000) (he:e<es.length) (hf:f<es.length) (k:∀ G,H.le G→K (.bool (clB es e f)) G):AC Tryz.prog T0 96 [.agg ⟨[.int .i64 n,v]⟩,.int .i64 (e:Nat),.int .i64 (f:Nat)] H K:=by
 apply F96.ac
 unfold F96.B10
 refine newK_f (all_iv (edges_one' h)) fun H1 l1 n1 o1=>?_
 unfold F96.B9
 refine ldI_own o1 rfl (ld1_own o1 rfl (l08Near_ok (h.le l1) he hf fun G lG=>asB_mk (pif_cases (fun hb=>?_) fun hb=>?_)))
 ·unfold F96.B8
  have:=k G (AHeap.le_trans l1 lG)
  unfold clB at this
  rwa [hb,Bool.true_or] at this
 ·have hcl:clB es e f=(List.range es.length).any fun h=>nrB es e h&&nrB es h f:=by unfold clB;rw [hb,Bool.false_or]
  rw [hcl] at k
  have l0G:=AHeap.le_trans l1 lG
  unfold F96.B7 F96.L2
  refine ⟨fun x1 x2 x3 x7 G'=>(e:Int)=x1∧(f:Int)=x2∧H.length=x3∧G.le G'∧∃ i:Nat,x7=i∧i≤es.length∧∀ j,j<i→(nrB es e j&&nrB es j f)=false,fun _ _ _ x7 _=>es.length-x7.toNat,⟨rfl,rfl,rfl,AHeap.le_refl _,0,rfl,by omega,fun j hj=>absurd hj (by omega)⟩,?_⟩
  rintro x1 x2 x3 x7 G' ⟨rfl,rfl,rfl,hG',i,rfl,hi,hp⟩
  have l0:=AHeap.le_trans l0G hG'
  have oG:=(o1.le lG).le hG'
  have hE:=h.le l0
  unfold F96.B6
  refine ld1_own oG rfl (hE.len (pif_cases (fun hc=>?_) fun hc=>?_))
  ·have hil:i<es.length:=by have:=of_decide_eq_true hc;omega
   have nxt:∀ G2,G'.le G2→(nrB es e i&&nrB es i f)=false→F96.B3 K (fun x1 x2 x3 x7 G''=>((e:Int)=x1∧(f:Int)=x2∧H.length=x3∧G.le G''∧∃ i:Nat,x7=i∧i≤es.length∧∀ j,j<i→(nrB es e j&&nrB es j f)=false)∧es.length-x7.toNat<es.length-(i:Int).toNat) (e:Int) (f:Int) H.length (i:Int) G2:=fun G2 hG2 hn=>by
    unfold F96.B3
    rw [wrap_id (by omega) (by omega)]
    refine ⟨⟨rfl,rfl,rfl,AHeap.le_trans hG' hG2,i+1,by omega,by omega,fun j hj=>?_⟩,by omega⟩
    by_cases e':j=i
    ·subst e';exact hn
    ·exact hp j (by omega)
   unfold F96.B5
   refine ldI_own oG rfl (ld1_own oG rfl (l08Near_ok (f:=i) hE he hil fun G2 l2=>asB_mk (pif_cases (fun h1=>?_) fun h1=>nxt G2 l2 (by rw [h1];rfl))))
   refine ldI_own (oG.le l2) rfl (ld1_own (oG.le l2) rfl (l08Near_ok (e:=f) (f:=i) (hE.le l2) hf hil fun G3 l3=>asB_mk (pif_cases (fun h2=>?_) fun h2=>nxt G3 (AHeap.le_trans l2 l3) (by rw [nrB_symm i f,h2,Bool.and_false]))))
   unfold F96.B4
   have:=k G3 (AHeap.le_trans l0 (AHeap.le_trans l2 l3))
   rwa [List.any_eq_true.2 ⟨i,List.mem_range.2 hil,by rw [h1,nrB_symm i f,h2];rfl⟩] at this
  ·have hil:i=es.length:=by have:=of_decide_eq_false hc;omega
   subst hil
   unfold F96.B1
   have:=k G' l0
   rwa [show ((List.range es.length).any fun h=>nrB es e h&&nrB es h f)=false from by
    rw [List.any_eq_false]
    intro j hj
    rw [hp j (List.mem_range.1 hj)];simp] at this
noncomputable def acCode (n:Int) (es:List (Int × Int)) (e f:Int):Int:=if IsG n es then (if (0≤e∧e≤(es.length:Int)-1)∧(0≤f∧f≤(es.length:Int)-1)∧e≠f then 0 else 2) else 1
noncomputable def acVal (n:Int) (es:List (Int × Int)) (e f:Int):Bool:=acCode n es e f==0&&clB es e.toNat f.toNat
theorem ac_zero {e f:Int} (h:acCode n es e f=0):IsG n es∧(0≤e∧e≤(es.length:Int)-1)∧(0≤f∧f≤(es.length:Int)-1)∧e≠f:=by
 unfold acCode at h
 by_cases hg:IsG n es
 ·rw [if_pos hg] at h
  by_cases hr:(0≤e∧e≤(es.length:Int)-1)∧(0≤f∧f≤(es.length:Int)-1)∧e≠f
  ·exact ⟨hg,hr⟩
  ·rw [if_neg hr] at h;cases h
 ·rw [if_neg hg] at h;cases h
theorem ac_if {e f:Int} {b:Bool} (hb:b=true↔((0≤e∧e≤(es.length:Int)-1)∧(0≤f∧f≤(es.length:Int)-1)∧e≠f)):(if IsG n es then (if b=true then 0 else 2) else 1:Int)=acCode n es e f:=by
 unfold acCode
 by_cases hg:IsG n es
 ·rw [if_pos hg,if_pos hg]
  by_cases h:b=true
  ·rw [if_pos h,if_pos (hb.1 h)]
  ·rw [if_neg h,if_neg (fun q=>h (hb.2 q))]
 ·rw [if_neg hg,if_neg hg]
theorem ac_symm {e f:Int}:acCode n es e f=acCode n es f e∧acVal n es e f=acVal n es f e:=by
 have h1:acCode n es e f=acCode n es f e:=by
  unfold acCode
  have:((0≤e∧e≤(es.length:Int)-1)∧(0≤f∧f≤(es.length:Int)-1)∧e≠f)↔((0≤f∧f≤(es.length:Int)-1)∧(0≤e∧e≤(es.length:Int)-1)∧f≠e):=
   ⟨fun ⟨a,b,c⟩=>⟨b,a,c.symm⟩,fun ⟨a,b,c⟩=>⟨b,a,c.symm⟩⟩
  simp only [this]
 refine ⟨h1,?_⟩
 unfold acVal
 rw [h1,clB_symm]
theorem implClose_ok {e f:Int} (h:Edges H v es) (hl:es.length≤1048576) (k:∀ G,H.le G→K (.tuple ⟨[.bool (acVal n es e f),.int .i64 (acCode n es e f)]⟩) G):AC Tryz.prog T0 32 [.agg ⟨[.int .i64 n,v]⟩,.int .i64 e,.int .i64 f] H K:=by
 apply F32.ac
 unfold F32.B5
 refine newK_f (all_iv (edges_one' h)) fun H1 l1 n1 o1=>?_
 have h1:=h.le l1
 have body:∀ G,H1.le G→F32.B3 K e f H.length (acCode n es e f) G:=fun G hG=>by
  unfold F32.B3
  refine pif_cases (fun hc=>?_) fun hc=>?_
  ·have hne:acCode n es e f≠0:=by simpa using hc
   have:=k G (AHeap.le_trans l1 hG)
   unfold acVal at this
   rw [beq_eq_false_iff_ne.2 hne,Bool.false_and] at this
   unfold F32.B2
   exact this
  ·have h0:acCode n es e f=0:=by simpa using hc
   obtain ⟨hg,he,hf,_⟩:=ac_zero h0
   obtain ⟨e,rfl⟩:∃ e':Nat,e=e':=⟨e.toNat,by omega⟩
   obtain ⟨f,rfl⟩:∃ f':Nat,f=f':=⟨f.toNat,by omega⟩
   have h30:es.length≤30:=by have:=hg.ed.len;have:=hg.ed.hi;omega
   have oG:=o1.le hG
   unfold F32.B1
   refine ldI_own oG rfl (ld1_own oG rfl (isClose_ok (h1.le hG) (by omega) (by omega) (by omega) fun G2 l2=>asB_mk ?_))
   have:=k G2 (AHeap.le_trans l1 (AHeap.le_trans hG l2))
   unfold acVal at this
   rw [h0] at this
   simpa using this
 have bad:∀ G,H1.le G→¬ ((0≤e∧e≤(es.length:Int)-1)∧(0≤f∧f≤(es.length:Int)-1)∧e≠f)→AC Tryz.prog T0 55 [.agg ⟨[.int .i64 n,v]⟩,.bool false] G (fun v13 H14=>asI .i64 v13 (fun v15=>F32.B3 K e f H.length v15 H14)):=fun G hG hn=>by
  refine graphCode_ok (b:=false) (h1.le hG) hl fun G2 l2=>asI_mk ?_
  have:=body G2 (AHeap.le_trans hG l2)
  rw [← ac_if (b:=false) ⟨fun h=>absurd h (by decide),fun h=>absurd h hn⟩] at this
  exact this
 unfold F32.B4
 refine ldI_own o1 rfl (ld1_own o1 rfl (ldI_own o1 rfl (ld1_own o1 rfl (isEdge_ok h1 hl fun H2 l2=>asB_mk ⟨l2,pif_cases (fun he=>?_) fun he=>bad H2 l2 fun hh=>of_decide_eq_false he hh.1⟩))))
 refine ldI_own (o1.le l2) rfl (ld1_own (o1.le l2) rfl (isEdge_ok (h1.le l2) hl fun H3 l3=>asB_mk ⟨l3,pif_cases (fun hf=>?_) fun hf=>bad H3 (AHeap.le_trans l2 l3) fun hh=>of_decide_eq_false hf hh.2.1⟩))
 have l13:=AHeap.le_trans l2 l3
 refine graphCode_ok (h1.le l13) hl fun H4 l4=>asI_mk ?_
 have:=body H4 (AHeap.le_trans l13 l4)
 rw [← ac_if (b:=e != f) ⟨fun h=>⟨of_decide_eq_true he,of_decide_eq_true hf,bne_iff_ne.1 h⟩,fun h=>bne_iff_ne.2 h.2.2⟩] at this
 exact this
theorem specClose_ok {e f:Int} (h:Edges H v es) (hl:es.length≤1048576) (k:∀ G,H.le G→K (.tuple ⟨[.bool (acVal n es e f),.int .i64 (acCode n es e f)]⟩) G):AC Tryz.prog T0 33 [.agg ⟨[.int .i64 n,v]⟩,.int .i64 e,.int .i64 f] H K:=by
 apply F33.ac
 unfold F33.B7
 refine newK_f (all_iv (edges_one' h)) fun H1 l1 n1 o1=>?_
 unfold F33.B6
 refine ldI_own o1 rfl (ld1_own o1 rfl (l01Is_ok (h.le l1) hl fun H2 l2=>asB_mk (pif_cases (fun hg=>?_) fun hg=>?_)))
 ·have hg:¬ IsG n es:=by rw [Bool.not_eq_true'] at hg;exact of_decide_eq_false hg
  unfold F33.B5
  have h1:acCode n es e f=1:=by unfold acCode;rw [if_neg hg]
  have:=k H2 (AHeap.le_trans l1 l2)
  unfold acVal at this
  rw [h1] at this
  exact this
 have hg:IsG n es:=by rw [Bool.not_eq_false'] at hg;exact of_decide_eq_true hg
 have h30:es.length≤30:=by have:=hg.ed.len;have:=hg.ed.hi;omega
 have l12:=AHeap.le_trans l1 l2
 have o2:=o1.le l2
 have bad:¬ ((0≤e∧e≤(es.length:Int)-1)∧(0≤f∧f≤(es.length:Int)-1)∧e≠f)→F33.B2 K H2:=fun hn=>by
  have h2:acCode n es e f=2:=by unfold acCode;rw [if_pos hg,if_neg hn]
  have:=k H2 l12
  unfold acVal at this
  rw [h2] at this
  unfold F33.B2
  exact this
 unfold F33.B4
 refine ld1_own o2 rfl ((h.le l12).len ?_)
 unfold F33.B3
 rw [wrap_id (by omega) (by omega)]
 refine l01In_ok (asB_mk (pif_cases (fun he=>bad fun hh=>?_) fun he=>?_))
 ·rw [Bool.not_eq_true'] at he;exact of_decide_eq_false he hh.1
 rw [Bool.not_eq_false'] at he
 have he:=of_decide_eq_true he
 refine l01In_ok (asB_mk (pif_cases (fun hf=>bad fun hh=>?_) fun hf=>?_))
 ·rw [Bool.not_eq_true'] at hf;exact of_decide_eq_false hf hh.2.1
 rw [Bool.not_eq_false'] at hf
 have hf:=of_decide_eq_true hf
 refine pif_cases (fun hef=>bad fun hh=>hh.2.2 (beq_iff_eq.1 hef)) fun hef=>?_
 have hef:e≠f:=beq_eq_false_iff_ne.1 hef
 have h0:acCode n es e f=0:=by unfold acCode;rw [if_pos hg,if_pos ⟨he,hf,hef⟩]
 obtain ⟨e,rfl⟩:∃ e':Nat,e=e':=⟨e.toNat,by omega⟩
 obtain ⟨f,rfl⟩:∃ f':Nat,f=f':=⟨f.toNat,by omega⟩
 unfold F33.B1
 refine ldI_own o2 rfl (ld1_own o2 rfl (l08Close_ok (h.le l12) (by omega) (by omega) (by omega) fun G2 l3=>asB_mk ?_))
 have:=k G2 (AHeap.le_trans l12 l3)
 unfold acVal at this
 rw [h0] at this
 simpa using this
end Go.Proofs
namespace Go.Proofs
open Go.Abs

noncomputable instance (a b:Int × Int):Decidable (share a b):=Classical.propDecidable _
noncomputable def clashB (es:List (Int × Int)) (c:List Int) (i:Nat) (x:Int):Bool:=@decide (∃ j,j<c.length∧c.getD j 0=x∧share (es.getD j (0,0)) (es.getD i (0,0))) (Classical.propDecidable _)
theorem clashB_iff {es:List (Int × Int)} {c:List Int} {i:Nat} {x:Int}:clashB es c i x=true↔∃ j,j<c.length∧c.getD j 0=x∧share (es.getD j (0,0)) (es.getD i (0,0)):=by unfold clashB;simp
noncomputable def spB (es:List (Int × Int)) (out:Nat→Bool):Nat→List Int→Bool
 | 0,_=>true
 | r+1,c=>if out c.length then spB es out r (c++[-1]) else (!clashB es c c.length 0&&spB es out r (c++[0]))||(!clashB es c c.length 1&&spB es out r (c++[1]))||(!clashB es c c.length 2&&spB es out r (c++[2]))
noncomputable def ptB (es:List (Int × Int)):List Int→List Int→Bool
 | [],_=>true
 | i::E,c=>(!clashB es c i.toNat 0&&ptB es E (c.set i.toNat 0))||(!clashB es c i.toNat 1&&ptB es E (c.set i.toNat 1))||(!clashB es c i.toNat 2&&ptB es E (c.set i.toNat 2))
def pad (c:List Int) (r:Nat):List Int:=c++List.replicate r (-1)
theorem pad_length (c:List Int) (r:Nat):(pad c r).length=c.length+r:=by simp [pad]
theorem pad_get {c:List Int} {r j:Nat}:(pad c r).getD j 0=if j<c.length then c.getD j 0 else if j<c.length+r then -1 else 0:=by
 unfold pad
 simp only [List.getD,List.getElem?_append,List.getElem?_replicate]
 by_cases h1:j<c.length
 ·rw [if_pos h1,if_pos h1]
 ·rw [if_neg h1,if_neg h1]
  by_cases h2:j<c.length+r
  ·rw [if_pos (by omega),if_pos h2];rfl
  ·rw [if_neg (by omega),if_neg h2];rfl
theorem pad_set {c:List Int} {r:Nat} (x:Int):(pad c (r+1)).set c.length x=pad (c++[x]) r:=by
 unfold pad
 rw [List.set_append_right _ _ (Nat.le_refl _),Nat.sub_self,List.replicate_succ,List.set_cons_zero,List.append_assoc];rfl
theorem pad_snoc {c:List Int} {r:Nat}:pad c (r+1)=pad (c++[-1]) r:=by
 unfold pad
 rw [List.replicate_succ,List.append_assoc];rfl
theorem clash_pad {es:List (Int × Int)} {c:List Int} {r i:Nat} {x:Int} (hx:0≤x):clashB es (pad c r) i x=clashB es c i x:=by
 rw [Bool.eq_iff_iff,clashB_iff,clashB_iff]
 constructor
 ·rintro ⟨j,h1,h2,h3⟩
  rw [pad_get] at h2
  by_cases h:j<c.length
  ·rw [if_pos h] at h2;exact ⟨j,h,h2,h3⟩
  ·rw [if_neg h] at h2
   rw [pad_length] at h1
   rw [if_pos h1] at h2;omega
 ·rintro ⟨j,h1,h2,h3⟩
  exact ⟨j,by rw [pad_length];omega,by rw [pad_get,if_pos h1];exact h2,h3⟩
def toCome (out:Nat→Bool) (e:Nat):Nat→List Int
 | 0=>[]
 | r+1=>if out e then toCome out (e+1) r else (e:Int)::toCome out (e+1) r
theorem sp_pt {es:List (Int × Int)} {out:Nat→Bool}:∀ (r:Nat) (c:List Int),spB es out r c=ptB es (toCome out c.length r) (pad c r)
 | 0,c=>rfl
 | r+1,c=>by
  rw [spB,toCome]
  by_cases h:out c.length=true
  ·rw [if_pos h,if_pos h,sp_pt r,pad_snoc,List.length_append];rfl
  ·rw [if_neg h,if_neg h,ptB]
   rw [Int.toNat_natCast,clash_pad (by decide),clash_pad (by decide),clash_pad (by decide),pad_set,pad_set,pad_set,sp_pt r,sp_pt r,sp_pt r]
   simp only [List.length_append,List.length_cons,List.length_nil]
theorem toCome_filt (out:Nat→Bool):∀ (r e:Nat),filtB (fun j=>!out j) (e+r)=filtB (fun j=>!out j) e++toCome out e r
 | 0,e=>by simp [toCome]
 | r+1,e=>by
  rw [show e+(r+1)=(e+1)+r by omega,toCome_filt out r (e+1),filtB_succ,toCome]
  cases h:out e <;> simp [h]
theorem toCome_zero (out:Nat→Bool) (m:Nat):toCome out 0 m=filtB (fun j=>!out j) m:=by
 have:=toCome_filt out m 0
 rw [Nat.zero_add] at this
 rw [this];rfl
noncomputable def wkQ (es:List (Int × Int)) (l:List Int):Bool:=spB es (bitB l) es.length []
theorem wkQ_pt {es:List (Int × Int)} {l:List Int}:wkQ es l=ptB es (filtB (fun j=>!bitB l j) es.length) (List.replicate es.length (-1)):=by
 unfold wkQ
 rw [sp_pt,List.length_nil,toCome_zero];rfl
theorem spB_out {es:List (Int × Int)} {out:Nat→Bool}:∀ (r:Nat) (c:List Int),(∀ j,c.length≤j→j<c.length+r→out j=true)→spB es out r c=true
 | 0,_,_=>rfl
 | r+1,c,h=>by
  rw [spB,if_pos (h _ (Nat.le_refl _) (by omega))]
  exact spB_out r _ fun j h1 h2=>h j (by simp at h1;omega) (by simp at h2;omega)
theorem cmb_full (m:Nat):∀ (k f:Nat),f+k=m→∃ l∈cmb m k f,∀ j,f≤j→j<m→(j:Int)∈l
 | 0,f,h=>⟨[],by simp [cmb_zero],fun j h1 h2=>by omega⟩
 | k+1,f,h=>by
  obtain ⟨l,h1,h2⟩:=cmb_full m k (f+1) (by omega)
  refine ⟨(f:Int)::l,?_,fun j h3 h4=>?_⟩
  ·rw [cmb_succ,cmbTo,List.mem_flatMap]
   exact ⟨f,by rw [List.mem_filter,List.mem_range];exact ⟨by omega,by simp⟩,List.mem_map.2 ⟨l,h1,rfl⟩⟩
  ·by_cases e:j=f
   ·subst e;simp
   ·exact List.mem_cons_of_mem _ (h2 j (by omega) h4)
theorem weak_some (es:List (Int × Int)):∃ l∈cmb es.length es.length 0,wkQ es l=true:=by
 obtain ⟨l,h1,h2⟩:=cmb_full es.length es.length 0 (by omega)
 refine ⟨l,h1,?_⟩
 unfold wkQ
 refine spB_out _ _ fun j _ h=>?_
 rw [bitB_mem (mem_cmb h1).2.1]
 exact h2 j (by omega) (by simpa using h)
noncomputable def weakF (es:List (Int × Int)):Nat→Nat→List Int
 | 0,_=>[]
 | f+1,k=>match (cmb es.length k 0).find? (wkQ es) with
  | some l=>l
  | none=>weakF es f (k+1)
end Go.Proofs
namespace Go.Proofs
open Go.Abs

variable {l m c:List Int} {es fs:List (Int × Int)} {n k d x y:Int}

def farI (x y:Int):Int:=if y-x>x-y then y-x else x-y
def apB (k d x y:Int):Bool:=decide (farI x y≥d)&&decide (farI x y≤k-d)
theorem apB_iff:apB k d x y=true↔d≤farI x y∧farI x y≤k-d:=by
 unfold apB
 rw [Bool.and_eq_true,decide_eq_true_iff,decide_eq_true_iff]
noncomputable def fitC (es:List (Int × Int)) (k d:Int) (c:List Int) (e:Nat) (x:Int):Bool:=@decide (∀ f,f<e→share (es.getD e (0,0)) (es.getD f (0,0))→apB k d x (c.getD f 0)=true) (Classical.propDecidable _)
theorem fitC_iff {e:Nat}:fitC es k d c e x=true↔∀ f,f<e→share (es.getD e (0,0)) (es.getD f (0,0))→apB k d x (c.getD f 0)=true:=by unfold fitC;simp
theorem fitC_congr {e:Nat} {c':List Int} (h:∀ j,j<e→c.getD j 0=c'.getD j 0):fitC es k d c e x=fitC es k d c' e x:=by
 rw [Bool.eq_iff_iff,fitC_iff,fitC_iff]
 exact ⟨fun hh f hf hs=>by rw [← h f hf];exact hh f hf hs,fun hh f hf hs=>by rw [h f hf];exact hh f hf hs⟩
def tries (k:Int):List Int→Nat
 | []=>1
 | _::_=>k.toNat
noncomputable def cirO (es:List (Int × Int)) (k d:Int):Nat→List Int→Option (List Int)
 | 0,c=>some c
 | r+1,c=>(List.range (tries k c)).findSome? fun x:Nat=>if fitC es k d c c.length (x:Int) then cirO es k d r (c++[(x:Int)]) else none
noncomputable def cirT (es:List (Int × Int)) (k d:Int) (r:Nat) (c:List Int) (t:Nat):Option (List Int):=(List.range t).findSome? fun x:Nat=>if fitC es k d c c.length (x:Int) then cirO es k d r (c++[(x:Int)]) else none
theorem cirO_succ (r:Nat) (c:List Int):cirO es k d (r+1) c=cirT es k d r c (tries k c):=rfl
theorem cirT_succ (r:Nat) (c:List Int) (t:Nat):cirT es k d r c (t+1)=(cirT es k d r c t).or (if fitC es k d c c.length (t:Int) then cirO es k d r (c++[(t:Int)]) else none):=by
 unfold cirT
 rw [List.range_succ,List.findSome?_append]
 congr 1
 simp
theorem cirT_some {r:Nat} {c l:List Int} {t s:Nat} (h:cirT es k d r c t=some l) (hs:t≤s):cirT es k d r c s=some l:=by
 obtain ⟨q,rfl⟩:∃ q,s=t+q:=⟨s-t,by omega⟩
 clear hs
 induction q with
 | zero=>exact h
 | succ q ih=>rw [← Nat.add_assoc,cirT_succ,ih];rfl
structure IsCi (es:List (Int × Int)) (k d:Int) (l:List Int) (m:Nat):Prop where
 len:l.length=m
 rng:∀ j,j<m→0≤l.getD j 0∧l.getD j 0≤k-1
 ok:∀ e,e<m→∀ f,f<e→share (es.getD e (0,0)) (es.getD f (0,0))→apB k d (l.getD e 0) (l.getD f 0)=true
theorem getD_snoc {j:Nat} (h:j<c.length):(c++[x]).getD j 0=c.getD j 0:=by simp [List.getD,List.getElem?_append_left h]
theorem getD_snoc_last:(c++[x]).getD c.length 0=x:=by simp [List.getD]
theorem IsCi.snoc {x:Nat} (h:IsCi es k d c c.length) (hk:(x:Int)≤k-1) (hf:fitC es k d c c.length (x:Int)=true):IsCi es k d (c++[(x:Int)]) (c++[(x:Int)]).length:=by
 refine ⟨rfl,fun j hj=>?_,fun e he f hfe hs=>?_⟩
 ·rw [List.length_append,List.length_singleton] at hj
  by_cases e:j=c.length
  ·subst e;rw [getD_snoc_last];omega
  ·rw [getD_snoc (by omega)];exact h.rng j (by omega)
 ·rw [List.length_append,List.length_singleton] at he
  rw [getD_snoc (by omega:f<c.length)]
  by_cases e':e=c.length
  ·subst e';rw [getD_snoc_last];exact fitC_iff.1 hf f hfe hs
  ·rw [getD_snoc (by omega)];exact h.ok e (by omega) f hfe hs
theorem tries_le (hk:1≤k) (c:List Int) {x:Nat} (hx:x<tries k c):(x:Int)≤k-1:=by
 unfold tries at hx
 split at hx <;> omega
theorem cirO_sound (hk:1≤k):∀ (r:Nat) (c:List Int),IsCi es k d c c.length→∀ l,cirO es k d r c=some l→IsCi es k d l (c.length+r)∧∃ R,l=c++R
 | 0,c,h,l,e=>by
  rw [cirO] at e
  cases e
  exact ⟨h,[],by simp⟩
 | r+1,c,h,l,e=>by
  rw [cirO] at e
  obtain ⟨x,hx,e⟩:=List.exists_of_findSome?_eq_some e
  rw [List.mem_range] at hx
  split at e
  ·rename_i hf
   obtain ⟨h1,R,h2⟩:=cirO_sound hk r _ (h.snoc (tries_le hk c hx) hf) l e
   rw [List.length_append,List.length_singleton] at h1
   exact ⟨by rw [show c.length+(r+1)=c.length+1+r by omega];exact h1,[(x:Int)]++R,by rw [h2,List.append_assoc]⟩
  ·cases e
theorem cirO_comp (hk:1≤k):∀ (r:Nat) (c R:List Int),c.length+r=es.length→IsCi es k d (c++R) es.length→(c=[]→(c++R).getD 0 0=0)→cirO es k d r c≠none
 | 0,c,R,_,_,_=>by rw [cirO];simp
 | r+1,c,R,hl,h,h0=>by
  intro e
  rw [cirO,List.findSome?_eq_none_iff] at e
  have hlen:=h.len
  rw [List.length_append] at hlen
  match R,h,h0,hlen with
  | [],_,_,hlen=>simp at hlen;omega
  | z::R,h,h0,hlen=>
   have hz:(c++z::R).getD c.length 0=z:=by simp [List.getD]
   have hr:=h.rng c.length (by omega)
   rw [hz] at hr
   obtain ⟨x,rfl⟩:∃ x:Nat,z=x:=⟨z.toNat,by omega⟩
   have hx:x<tries k c:=by
    unfold tries
    split
    ·have:=h0 rfl
     simp at this;omega
    ·omega
   have:=e x (List.mem_range.2 hx)
   have hf:fitC es k d c c.length (x:Int)=true:=fitC_iff.2 fun f hf hs=>by
    have:=h.ok c.length (by omega) f hf hs
    rw [hz] at this
    have e2:(c++(x:Int)::R).getD f 0=c.getD f 0:=by simp [List.getD,List.getElem?_append_left hf]
    rwa [e2] at this
   rw [if_pos hf] at this
   refine cirO_comp hk r (c++[(x:Int)]) R (by simp;omega) (by rw [List.append_assoc];exact h) (fun h=>by simp at h) this
theorem isC_ci {c:List Int}:IsCi es 3 1 c es.length↔IsC es c:=by
 constructor
 ·intro h
  have hl:=h.len
  refine ⟨hl,fun x hx=>?_,fun j hj i hij hs e=>?_⟩
  ·obtain ⟨j,hj,rfl⟩:=List.getElem_of_mem hx
   have:=h.rng j (by omega)
   rw [getD_of hj] at this;omega
  ·have:=h.ok j (by omega) i hij (share_symm hs)
   rw [apB_iff] at this
   unfold farI at this
   split at this <;> omega
 ·intro h
  have hl:=h.len
  have hr:∀ j,j<es.length→0≤c.getD j 0∧c.getD j 0≤2:=fun j hj=>by
   rw [getD_of (by omega)];exact h.rng _ (List.getElem_mem _)
  refine ⟨hl,fun j hj=>by have:=hr j hj;omega,fun e he f hf hs=>?_⟩
  have h1:=hr e he
  have h2:=hr f (by omega)
  have h3:=h.col e (by omega) f hf (share_symm hs)
  rw [apB_iff]
  unfold farI
  split <;> omega
theorem isC_wide {c:List Int} (hc:IsC es c) (hk:3*d≤k) (hd:1≤d):IsCi es k d (c.map (· * d)) es.length:=by
 have hl:=hc.len
 have hr:∀ j,j<es.length→0≤c.getD j 0∧c.getD j 0≤2:=fun j hj=>by
  rw [getD_of (by omega)];exact hc.rng _ (List.getElem_mem _)
 have hm:∀ j,j<es.length→(c.map (· * d)).getD j 0=c.getD j 0*d:=fun j hj=>by
  rw [getD_of (by simp;omega),List.getElem_map,getD_of (by omega)]
 have val:∀ j,j<es.length→(c.getD j 0=0∧c.getD j 0*d=0)∨(c.getD j 0=1∧c.getD j 0*d=d)∨(c.getD j 0=2∧c.getD j 0*d=2*d):=fun j hj=>by
  have:=hr j hj
  have h3:c.getD j 0=0∨c.getD j 0=1∨c.getD j 0=2:=by omega
  rcases h3 with e|e|e <;> rw [e]
  ·exact .inl ⟨rfl,by omega⟩
  ·exact .inr (.inl ⟨rfl,by omega⟩)
  ·exact .inr (.inr ⟨rfl,rfl⟩)
 refine ⟨by simpa using hl,fun j hj=>?_,fun e he f hf hs=>?_⟩
 ·rw [hm j hj]
  rcases val j hj with h|h|h <;> omega
 ·rw [hm e he,hm f (by omega),apB_iff]
  have h3:=hc.col e (by omega) f hf (share_symm hs)
  unfold farI
  rcases val e he with h|h|h <;> rcases val f (by omega) with g|g|g <;> (split <;> omega)
end Go.Proofs
namespace Go.Proofs
open Go.Abs

variable {H G:AHeap} {v u f:Value} {l m c D:List Int} {es fs:List (Int × Int)} {K:Value→AHeap→Prop}

theorem nilK_mk {b o:Nat} {K:Value→Prop} (h:K (.pointer (some ⟨b,o,none⟩))):nilK (.pointer (some ⟨b,o,none⟩)) K:=h
theorem asTup_mk {xs:List Value} {K:List Value→Prop} (h:K xs):asTup (.tuple ⟨xs⟩) K:=h
structure Two (cb ub:Nat) (G G':AHeap):Prop where
 len:G.length≤G'.length
 old:∀ (b:Nat) (o:AObj),b≠cb→b≠ub→G[b]?=some (some o)→G'[b]?=some (some o)
theorem Two.le {cb ub:Nat} {G G':AHeap} (h:G.le G'):Two cb ub G G':=⟨h.1,fun b o _ _ ho=>h.2 b o ho⟩
theorem Two.trans {cb ub:Nat} {G G' G2:AHeap} (h:Two cb ub G G') (k:Two cb ub G' G2):Two cb ub G G2:=⟨Nat.le_trans h.len k.len,fun b o h1 h2 ho=>k.old b o h1 h2 (h.old b o h1 h2 ho)⟩
theorem Two.base {cb ub:Nat} {H0 G G':AHeap} (h:Two cb ub G G') (h0:H0.le G) (hc:H0.length≤cb) (hu:H0.length≤ub):H0.le G':=
 ⟨Nat.le_trans h0.1 h.len,fun b o ho=>by have:=lt_of_get ho;exact h.old b o (by omega) (by omega) (h0.2 b o ho)⟩
theorem Two.butC {cb ub:Nat} {G G':AHeap} (h:But cb G G'):Two cb ub G G':=⟨Nat.le_of_eq h.len.symm,fun b o h1 _ ho=>by rw [h.same b h1];exact ho⟩
theorem Two.butU {cb ub:Nat} {G G':AHeap} (h:But ub G G'):Two cb ub G G':=⟨Nat.le_of_eq h.len.symm,fun b o _ h1 ho=>by rw [h.same b h1];exact ho⟩
theorem Two.same {cb ub:Nat} {G G':AHeap} {tc tu:TypeId} {xs ys:List Value} (h:Two cb ub G G') (c1:Own G cb tc xs) (c2:Own G' cb tc xs) (u1:Own G ub tu ys) (u2:Own G' ub tu ys):G.le G':=by
 refine ⟨h.len,fun b o ho=>?_⟩
 by_cases e1:b=cb
 ·subst e1
  have:=c1.symm.trans ho
  rw [← Option.some.inj (Option.some.inj this)];exact c2
 ·by_cases e2:b=ub
  ·subst e2
   have:=u1.symm.trans ho
   rw [← Option.some.inj (Option.some.inj this)];exact u2
  ·exact h.old b o e1 e2 ho
theorem LUget2 {Z:List Nat} {i:Nat} (h:i<Z.length):(LU Z)[i]?=some (.int .u64 (Z.getD i 0:Nat)):=by simp [h]
def orAt (u:List Nat) (w x:Nat):List Nat:=u.set w (u.getD w 0|||2^x)
def offAtU (u:List Nat) (w x:Nat):List Nat:=u.set w (u.getD w 0&&&(2^64-(2^x+1)))
theorem off_or {s x:Nat} (hs:s<2^64) (hx:x<64) (hb:s.testBit x=false):(s|||2^x)&&&(2^64-(2^x+1))=s:=by
 have px:2^x<2^64:=Nat.pow_lt_pow_right (by decide) hx
 apply Nat.eq_of_testBit_eq
 intro j
 rw [Nat.testBit_and,Nat.testBit_or,Nat.testBit_two_pow_sub_succ px,Nat.testBit_two_pow]
 by_cases hj:j<64
 ·by_cases e:x=j
  ·subst e;simp [hb]
  ·simp [hj,e]
 ·rw [testBit_big hs (by omega)];simp [hj]
theorem getN_set_self {l:List Nat} {i x:Nat} (h:i<l.length):(l.set i x).getD i 0=x:=by simp [List.getD,h]
theorem getN_set_ne {l:List Nat} {i j x:Nat} (h:i≠j):(l.set i x).getD j 0=l.getD j 0:=by simp [List.getD,List.getElem?_set,h]
theorem set_getN {l:List Nat} {i:Nat} (h:i<l.length):l.set i (l.getD i 0)=l:=by rw [getD_of h];exact List.set_getElem_self h
theorem give_take {u:List Nat} {a b x:Nat} (ha:a<u.length) (hb:b<u.length) (hab:a≠b) (hx:x<64) (h1:u.getD a 0<2^64) (h2:u.getD b 0<2^64) (b1:(u.getD a 0).testBit x=false) (b2:(u.getD b 0).testBit x=false) :
 offAtU (offAtU (orAt (orAt u a x) b x) a x) b x=u:=by
 unfold offAtU orAt
 have e1:((u.set a (u.getD a 0|||2^x)).getD b 0)=u.getD b 0:=getN_set_ne hab
 rw [e1]
 have e2:(((u.set a (u.getD a 0|||2^x)).set b (u.getD b 0|||2^x)).getD a 0)=u.getD a 0|||2^x:=by
  rw [getN_set_ne (fun e=>hab e.symm),getN_set_self ha]
 rw [e2,off_or h1 hx b1]
 have e3:((((u.set a (u.getD a 0|||2^x)).set b (u.getD b 0|||2^x)).set a (u.getD a 0)).getD b 0)=u.getD b 0|||2^x:=by
  rw [getN_set_ne hab,getN_set_self (by simpa using hb)]
 rw [e3,off_or h2 hx b2]
 rw [List.set_comm _ _ hab,List.set_set,List.set_comm _ _ (fun e=>hab e.symm),List.set_set,set_getN ha,set_getN hb]
def UsedOk (es:List (Int × Int)) (n:Nat) (c:List Int) (u:List Nat):Prop:=u.length=n∧∀ w,w<n→u.getD w 0<2^64∧∀ k:Nat,(u.getD w 0).testBit k=true↔∃ j,j<c.length∧c.getD j 0=k∧on (es.getD j (0,0)) w=true
theorem UsedOk.give {n:Nat} {c:List Int} {u:List Nat} {a b i x:Nat} (h:UsedOk es n c u) (hi:i<c.length) (hc:c.getD i 0=-1) (he:es.getD i (0,0)=((a:Int),(b:Int))) (ha:a<n) (hb:b<n) (hab:a≠b) (hx:x<64):UsedOk es n (c.set i (x:Int)) (orAt (orAt u a x) b x):=by
 obtain ⟨h1,h2⟩:=h
 have px:2^x<2^64:=Nat.pow_lt_pow_right (by decide) hx
 have hon:∀ w:Nat,on (es.getD i (0,0)) w=true↔a=w∨b=w:=fun w=>by
  rw [he];unfold on;simp only [Bool.or_eq_true,beq_iff_eq];omega
 have hget:∀ w,w<n→(orAt (orAt u a x) b x).getD w 0=if on (es.getD i (0,0)) w=true then u.getD w 0|||2^x else u.getD w 0:=by
  intro w hw
  unfold orAt
  have e1:((u.set a (u.getD a 0|||2^x)).getD b 0)=u.getD b 0:=getN_set_ne hab
  rw [e1]
  by_cases e2:b=w
  ·subst e2
   rw [getN_set_self (by simp;omega),if_pos ((hon b).2 (.inr rfl))]
  ·rw [getN_set_ne e2]
   by_cases e3:a=w
   ·subst e3
    rw [getN_set_self (by omega),if_pos ((hon a).2 (.inl rfl))]
   ·rw [getN_set_ne e3,if_neg fun h=>((hon w).1 h).elim e3 e2]
 refine ⟨by simp [orAt,h1],fun w hw=>?_⟩
 rw [hget w hw]
 obtain ⟨g1,g2⟩:=h2 w hw
 refine ⟨by split;exact or_lt g1 px;exact g1,fun k=>?_⟩
 constructor
 ·intro hk
  by_cases ho:on (es.getD i (0,0)) w=true
  ·rw [if_pos ho,Nat.testBit_or,Bool.or_eq_true,Nat.testBit_two_pow,decide_eq_true_iff] at hk
   rcases hk with hk|hk
   ·obtain ⟨j,j1,j2,j3⟩:=(g2 k).1 hk
    have hne:i≠j:=fun e=>by subst e;omega
    exact ⟨j,by simpa using j1,by rw [getD_set_ne hne];exact j2,j3⟩
   ·exact ⟨i,by simpa using hi,by rw [getD_set_self hi];omega,ho⟩
  ·rw [if_neg ho] at hk
   obtain ⟨j,j1,j2,j3⟩:=(g2 k).1 hk
   have hne:i≠j:=fun e=>by subst e;omega
   exact ⟨j,by simpa using j1,by rw [getD_set_ne hne];exact j2,j3⟩
 ·rintro ⟨j,j1,j2,j3⟩
  by_cases e:i=j
  ·subst e
   rw [getD_set_self hi] at j2
   rw [if_pos j3,Nat.testBit_or,Bool.or_eq_true,Nat.testBit_two_pow,decide_eq_true_iff]
   right;omega
  ·rw [getD_set_ne e] at j2
   have:=(g2 k).2 ⟨j,by simpa using j1,j2,j3⟩
   split
   ·rw [Nat.testBit_or,this];rfl
   ·exact this
theorem used_clash {n:Nat} {c:List Int} {u:List Nat} {a b i x:Nat} (h:UsedOk es n c u) (he:es.getD i (0,0)=((a:Int),(b:Int))) (ha:a<n) (hb:b<n):(u.getD a 0|||u.getD b 0).testBit x=clashB es c i (x:Int):=by
 obtain ⟨_,h2⟩:=h
 rw [Bool.eq_iff_iff,clashB_iff,Nat.testBit_or,Bool.or_eq_true,(h2 a ha).2,(h2 b hb).2]
 have hon:∀ z:Int,on (es.getD i (0,0)) z=true↔(a:Int)=z∨(b:Int)=z:=fun z=>by
  rw [he];unfold on;simp only [Bool.or_eq_true,beq_iff_eq]
 constructor
 ·rintro (⟨j,j1,j2,j3⟩|⟨j,j1,j2,j3⟩)
  ·exact ⟨j,j1,j2,a,j3,(hon a).2 (.inl rfl)⟩
  ·exact ⟨j,j1,j2,b,j3,(hon b).2 (.inr rfl)⟩
 ·rintro ⟨j,j1,j2,z,z1,z2⟩
  rcases (hon z).1 z2 with rfl|rfl
  ·exact .inl ⟨j,j1,j2,z1⟩
  ·exact .inr ⟨j,j1,j2,z1⟩
section
variable {n:Int} {H0:AHeap} {pb cb ub:Nat} {tP:TypeId} {qE fV:Value} {u:List Nat}
theorem give_ok {i x:Nat} (hg:IsG n es) (he:Edges H0 v es) (h0:H0.le G) (hcb:H0.length≤cb) (hub:H0.length≤ub) (hne:cb≠ub) (hp1:pb≠cb) (hp2:pb≠ub) (oP:Own G pb tP [.int .i64 n,v,qE,.slice (some ⟨cb,0,none⟩) es.length (es.length+1),.slice (some ⟨ub,0,none⟩) n.toNat (n.toNat+1),fV])
 (oc:Own G cb 2 (LI c)) (ou:Own G ub 83 (LU u)) (hcl:c.length=es.length) (hul:u.length=n.toNat) (hu64:∀ w,w<n.toNat→u.getD w 0<2^64) (hi:i<es.length) (hx:x<64)
 (k:∀ G',Two cb ub G G'→Own G' cb 2 (LI (c.set i (x:Int)))→Own G' ub 83 (LU (orAt (orAt u (es.getD i (0,0)).1.toNat x) (es.getD i (0,0)).2.toNat x))→K (.tuple ⟨[]⟩) G') :
 AC Tryz.prog T0 178 [.pointer (some ⟨pb,0,none⟩),.int .i64 (i:Nat),.int .i64 (x:Nat)] G K:=by
 obtain ⟨d1,d2,d3,d4,d5⟩:=hg.ed.ends es[i] (List.getElem_mem hi)
 rw [← getD_of (d:=(0,0)) hi] at d1 d2 d3 d4 d5
 have px:2^x<2^64:=Nat.pow_lt_pow_right (by decide) hx
 apply F178.ac
 unfold F178.B7
 refine nilK_mk (asP_mk (ld1_own oP rfl (own_idx (by omega) (by omega) (stK_1 oc (by simp;omega) rfl fun G1 b1 oc1=>?_))))
 rw [Int.toNat_natCast,← List.map_set] at oc1
 have t1:Two cb ub G G1:=.butC b1
 have oP1:=b1.own oP hp1
 have ou1:=b1.own ou (fun e=>hne e.symm)
 unfold F178.B6
 obtain ⟨bb,oo,hk,c1,c2⟩:=(he.le (t1.base h0 hcb hub)).idx (show (0:Int)≤i by omega) (by omega)
 simp only [Int.toNat_natCast] at c1 c2
 refine nilK_mk (asP_mk (ld1_own oP1 rfl (hk _ (ldI_mk c1 (ldI_mk c2 ?_)))))
 unfold F178.L1
 refine ⟨fun x0 x2 x22a x22b x23 G'=>.pointer (some ⟨pb,0,none⟩)=x0∧((x:Nat):Int)=x2∧(es.getD i (0,0)).1=x22a∧(es.getD i (0,0)).2=x22b∧Two cb ub G G'∧Own G' pb tP [.int .i64 n,v,qE,.slice (some ⟨cb,0,none⟩) es.length (es.length+1),.slice (some ⟨ub,0,none⟩) n.toNat (n.toNat+1),fV]∧Own G' cb 2 (LI (c.set i (x:Int)))∧∃ (t:Nat) (u':List Nat),x23=t∧t≤2∧Own G' ub 83 (LU u')∧u'.length=n.toNat∧(∀ w,w<n.toNat→u'.getD w 0<2^64)∧u'=(if t=0 then u else if t=1 then orAt u (es.getD i (0,0)).1.toNat x else orAt (orAt u (es.getD i (0,0)).1.toNat x) (es.getD i (0,0)).2.toNat x),
  fun _ _ _ _ x23 _=>2-x23.toNat,⟨rfl,rfl,rfl,rfl,t1,oP1,oc1,0,u,rfl,by omega,ou1,hul,hu64,rfl⟩,?_⟩
 rintro x0 x2 x22a x22b x23 G2 ⟨rfl,rfl,rfl,rfl,t2,oP2,oc2,t,u',rfl,ht,ou2,hul',hu64',hue⟩
 unfold F178.B5
 refine pif_cases (fun hb=>?_) fun hb=>?_
 ·have ht2:t<2:=by have:=of_decide_eq_true hb;omega
  have hw:∃ w:Nat,([.int .i64 (es.getD i (0,0)).1,.int .i64 (es.getD i (0,0)).2]:List Value)[(t:Int).toNat*1]?=some (.int .i64 (w:Nat))∧w<n.toNat∧(t=0→w=(es.getD i (0,0)).1.toNat)∧(t=1→w=(es.getD i (0,0)).2.toNat):=by
   rcases (by omega:t=0∨t=1) with rfl|rfl
   ·exact ⟨(es.getD i (0,0)).1.toNat,by rw [Int.toNat_of_nonneg d1];rfl,by omega,fun _=>rfl,fun h=>by omega⟩
   ·exact ⟨(es.getD i (0,0)).2.toNat,by rw [Int.toNat_of_nonneg d3];rfl,by omega,fun h=>by omega,fun _=>rfl⟩
  obtain ⟨w,hat,hwn,w0,w1⟩:=hw
  have huw:=hu64' w hwn
  unfold F178.B4
  refine bndK_iff.2 ⟨by omega,by omega,?_⟩
  unfold atK
  rw [hat]
  refine asI_mk ?_
  unfold F178.B3
  refine nilK_mk (asP_mk (ld1_own oP2 rfl (own_idx (by omega) (by omega) (ldI_own ou2 (by rw [Int.toNat_natCast];exact LUget2 (by omega)) ⟨by omega,own_idx (by omega) (by omega) (stK_1 ou2 (by simp;omega) rfl fun G3 b3 o3=>?_)⟩))))
  rw [one_shl (by omega) (by omega),Int.toNat_natCast,Int.toNat_natCast,bits_or huw px,show (Value.int .u64 (((u'.getD w 0|||2^x:Nat)):Int))=(fun z:Nat=>Value.int .u64 (z:Int)) (u'.getD w 0|||2^x) from rfl,← List.map_set] at o3
  unfold F178.B2
  rw [wrap_id (by omega) (by omega)]
  refine ⟨⟨rfl,rfl,rfl,rfl,t2.trans (.butU b3),b3.own oP2 hp2,b3.own oc2 hne,t+1,_,by omega,by omega,o3,by simpa using hul',fun w' hw'=>?_,?_⟩,by simp;omega⟩
  ·by_cases e:w=w'
   ·subst e;rw [getN_set_self (by omega)];exact or_lt huw px
   ·rw [getN_set_ne e];exact hu64' w' hw'
  ·rcases (by omega:t=0∨t=1) with rfl|rfl
   ·rw [if_neg (by omega),if_pos rfl,hue,if_pos rfl,w0 rfl];rfl
   ·rw [if_neg (by omega),if_neg (by omega),hue,if_neg (by omega),if_pos rfl,w1 rfl];rfl
 ·have ht2:t=2:=by have:=of_decide_eq_false hb;omega
  subst ht2
  rw [if_neg (by omega),if_neg (by omega)] at hue
  rw [hue] at ou2
  exact k G2 t2 oc2 ou2
theorem take_ok {i x:Nat} (hg:IsG n es) (he:Edges H0 v es) (h0:H0.le G) (hcb:H0.length≤cb) (hub:H0.length≤ub) (hne:cb≠ub) (hp1:pb≠cb) (hp2:pb≠ub) (oP:Own G pb tP [.int .i64 n,v,qE,.slice (some ⟨cb,0,none⟩) es.length (es.length+1),.slice (some ⟨ub,0,none⟩) n.toNat (n.toNat+1),fV])
 (oc:Own G cb 2 (LI c)) (ou:Own G ub 83 (LU u)) (hcl:c.length=es.length) (hul:u.length=n.toNat) (hu64:∀ w,w<n.toNat→u.getD w 0<2^64) (hi:i<es.length) (hx:x<64) (hcx:c.getD i 0=(x:Int))
 (k:∀ G',Two cb ub G G'→Own G' cb 2 (LI (c.set i (-1)))→Own G' ub 83 (LU (offAtU (offAtU u (es.getD i (0,0)).1.toNat x) (es.getD i (0,0)).2.toNat x))→K (.tuple ⟨[]⟩) G') :
 AC Tryz.prog T0 208 [.pointer (some ⟨pb,0,none⟩),.int .i64 (i:Nat)] G K:=by
 obtain ⟨d1,d2,d3,d4,d5⟩:=hg.ed.ends es[i] (List.getElem_mem hi)
 rw [← getD_of (d:=(0,0)) hi] at d1 d2 d3 d4 d5
 have px:2^x<2^64:=Nat.pow_lt_pow_right (by decide) hx
 have oi:=own_ints (c:=es.length+1) oc
 rw [hcl] at oi
 apply F208.ac
 unfold F208.B7
 obtain ⟨bb,oo,hk,c1,c2⟩:=(he.le h0).idx (show (0:Int)≤i by omega) (by omega)
 simp only [Int.toNat_natCast] at c1 c2
 refine nilK_mk (asP_mk (ld1_own oP rfl (hk _ (ldI_mk c1 (ldI_mk c2 ?_)))))
 unfold F208.L2
 refine ⟨fun x0 x1 x13a x13b x14 G'=>.pointer (some ⟨pb,0,none⟩)=x0∧((i:Nat):Int)=x1∧(es.getD i (0,0)).1=x13a∧(es.getD i (0,0)).2=x13b∧Two cb ub G G'∧Own G' pb tP [.int .i64 n,v,qE,.slice (some ⟨cb,0,none⟩) es.length (es.length+1),.slice (some ⟨ub,0,none⟩) n.toNat (n.toNat+1),fV]∧Own G' cb 2 (LI c)∧∃ (t:Nat) (u':List Nat),x14=t∧t≤2∧Own G' ub 83 (LU u')∧u'.length=n.toNat∧(∀ w,w<n.toNat→u'.getD w 0<2^64)∧u'=(if t=0 then u else if t=1 then offAtU u (es.getD i (0,0)).1.toNat x else offAtU (offAtU u (es.getD i (0,0)).1.toNat x) (es.getD i (0,0)).2.toNat x),
  fun _ _ _ _ x14 _=>2-x14.toNat,⟨rfl,rfl,rfl,rfl,.le (AHeap.le_refl _),oP,oc,0,u,rfl,by omega,ou,hul,hu64,rfl⟩,?_⟩
 clear oi
 rintro x0 x1 x13a x13b x14 G2 ⟨rfl,rfl,rfl,rfl,t2,oP2,oc2,t,u',rfl,ht,ou2,hul',hu64',hue⟩
 have oi:=own_ints (c:=es.length+1) oc2
 rw [hcl] at oi
 unfold F208.B6
 refine pif_cases (fun hb=>?_) fun hb=>?_
 ·have ht2:t<2:=by have:=of_decide_eq_true hb;omega
  have hw:∃ w:Nat,([.int .i64 (es.getD i (0,0)).1,.int .i64 (es.getD i (0,0)).2]:List Value)[(t:Int).toNat*1]?=some (.int .i64 (w:Nat))∧w<n.toNat∧(t=0→w=(es.getD i (0,0)).1.toNat)∧(t=1→w=(es.getD i (0,0)).2.toNat):=by
   rcases (by omega:t=0∨t=1) with rfl|rfl
   ·exact ⟨(es.getD i (0,0)).1.toNat,by rw [Int.toNat_of_nonneg d1];rfl,by omega,fun _=>rfl,fun h=>by omega⟩
   ·exact ⟨(es.getD i (0,0)).2.toNat,by rw [Int.toNat_of_nonneg d3];rfl,by omega,fun h=>by omega,fun _=>rfl⟩
  obtain ⟨w,hat,hwn,w0,w1⟩:=hw
  have huw:=hu64' w hwn
  unfold F208.B5
  refine bndK_iff.2 ⟨by omega,by omega,?_⟩
  unfold atK
  rw [hat]
  refine asI_mk ?_
  unfold F208.B4
  refine nilK_mk (asP_mk (ld1_own oP2 rfl (own_idx (by omega) (by omega) (ldI_own ou2 (by rw [Int.toNat_natCast];exact LUget2 (by omega)) (nilK_mk (asP_mk (ld1_own oP2 rfl (oi.rd (by omega) (by omega) ?_))))))))
  rw [Int.toNat_natCast,hcx]
  refine ⟨by omega,own_idx (by omega) (by omega) (stK_1 ou2 (by simp;omega) rfl fun G3 b3 o3=>?_)⟩
  have band:IntKind.u64.wrap ((BitVec.ofInt 64 ((u'.getD w 0:Nat):Int)&&&~~~(BitVec.ofInt 64 ((2^x:Nat):Int))).toNat:Int)=((u'.getD w 0&&&(2^64-(2^x+1)):Nat):Int):=by
   have hs':u'.getD w 0&&&(2^64-(2^x+1))<2^64:=Nat.lt_of_le_of_lt Nat.and_le_left huw
   rw [bv_nat,bv_nat,BitVec.toNat_and,BitVec.toNat_not,BitVec.toNat_ofNat,BitVec.toNat_ofNat,Nat.mod_eq_of_lt huw,Nat.mod_eq_of_lt px,show 2^64-1-2^x=2^64-(2^x+1) by omega,u64_nat hs']
  rw [one_shl (by omega) (by omega),Int.toNat_natCast,Int.toNat_natCast,band,show (Value.int .u64 (((u'.getD w 0&&&(2^64-(2^x+1)):Nat)):Int))=(fun z:Nat=>Value.int .u64 (z:Int)) (u'.getD w 0&&&(2^64-(2^x+1))) from rfl,← List.map_set] at o3
  unfold F208.B3
  rw [wrap_id (by omega) (by omega)]
  refine ⟨⟨rfl,rfl,rfl,rfl,t2.trans (.butU b3),b3.own oP2 hp2,b3.own oc2 hne,t+1,_,by omega,by omega,o3,by simpa using hul',fun w' hw'=>?_,?_⟩,by simp;omega⟩
  ·by_cases e:w=w'
   ·subst e;rw [getN_set_self (by omega)];exact Nat.lt_of_le_of_lt Nat.and_le_left huw
   ·rw [getN_set_ne e];exact hu64' w' hw'
  ·rcases (by omega:t=0∨t=1) with rfl|rfl
   ·rw [if_neg (by omega),if_pos rfl,hue,if_pos rfl,w0 rfl];rfl
   ·rw [if_neg (by omega),if_neg (by omega),hue,if_neg (by omega),if_pos rfl,w1 rfl];rfl
 ·have ht2:t=2:=by have:=of_decide_eq_false hb;omega
  subst ht2
  rw [if_neg (by omega),if_neg (by omega)] at hue
  rw [hue] at ou2
  unfold F208.B1
  refine nilK_mk (asP_mk (ld1_own oP2 rfl (own_idx (by omega) (by omega) (stK_1 oc2 (by simp;omega) rfl fun G3 b3 o3=>?_))))
  rw [Int.toNat_natCast,← List.map_set] at o3
  exact k G3 (t2.trans (.butC b3)) o3 (b3.own ou2 (fun e=>hne e.symm))
end
end Go.Proofs
namespace Go.Proofs
open Go.Abs

variable {H G:AHeap} {v u f:Value} {l m c D:List Int} {es fs:List (Int × Int)} {K:Value→AHeap→Prop}

theorem ptB_cons {i:Int} {E c:List Int}:ptB es (i::E) c=true↔∃ x:Nat,x<3∧clashB es c i.toNat (x:Int)=false∧ptB es E (c.set i.toNat (x:Int))=true:=by
 rw [ptB]
 simp only [Bool.or_eq_true,Bool.and_eq_true,Bool.not_eq_true']
 constructor
 ·rintro ((h|h)|h)
  ·exact ⟨0,by omega,h⟩
  ·exact ⟨1,by omega,h⟩
  ·exact ⟨2,by omega,h⟩
 ·rintro ⟨x,hx,h⟩
  rcases (by omega:x=0∨x=1∨x=2) with rfl|rfl|rfl
  ·exact .inl (.inl h)
  ·exact .inl (.inr h)
  ·exact .inr h
abbrev foundV:Value:=.func (.func 181) ⟨[]⟩ ⟨[]⟩
section
variable {n:Int} {H0:AHeap} {pb cb ub:Nat} {tP:TypeId} {qE:Value}
theorem paint_ok {E:List Int} (hg:IsG n es) (he:Edges H0 v es) (hE:Ints H0 qE E) (hEn:E.Nodup) (hEr:∀ x∈E,0≤x∧x<es.length) (hcb:H0.length≤cb) (hub:H0.length≤ub) (hne:cb≠ub) (hp1:pb≠cb) (hp2:pb≠ub) :
    ∀ (r k:Nat) (c:List Int) (u:List Nat) (G:AHeap) (K:Value→AHeap→Prop),k+r=E.length→H0.le G→Own G pb tP [.int .i64 n,v,qE,.slice (some ⟨cb,0,none⟩) es.length (es.length+1),.slice (some ⟨ub,0,none⟩) n.toNat (n.toNat+1),foundV]→
      Own G cb 2 (LI c)→Own G ub 83 (LU u)→c.length=es.length→UsedOk es n.toNat c u→(∀ j,k≤j→j<E.length→c.getD (E.getD j 0).toNat 0=-1)→(∀ G',G.le G'→K (.bool (ptB es (E.drop k) c)) G')→
      AC Tryz.prog T0 179 [.pointer (some ⟨pb,0,none⟩),.int .i64 (k:Nat)] G K:=by
  have n0:=hg.ed.lo;have n1:=hg.ed.hi
  have h30:es.length≤30:=by have:=hg.ed.len;omega
  have hEl:E.length≤30:=by
    have:=nodup_sub (m:=upto es.length) hEn fun x hx=>by
      have:=hEr x hx
      unfold upto;exact List.mem_map.2 ⟨x.toNat,List.mem_range.2 (by omega),Int.toNat_of_nonneg this.1⟩
    unfold upto at this
    rw [List.length_map,List.length_range] at this;omega
  intro r
  induction r with
  | zero|succ r ih=>
    intro k c u G K hkr h0 oP oc ou hcl hU hfree kk
    have hEG:=hE.le h0
    have oi:=own_ints (c:=es.length+1) oc
    rw [hcl] at oi
    apply F179.ac
    unfold F179.B20 F179.L17
    refine ⟨fun x0 x1 G'=>.pointer (some ⟨pb,0,none⟩)=x0∧((k:Nat):Int)=x1∧G=G',fun _ _ _=>0,⟨rfl,rfl,rfl⟩,?_⟩
    rintro x0 x1 G' ⟨rfl,rfl,rfl⟩
    unfold F179.B19
    refine nilK_mk (asP_mk (ld1_own oP rfl (hEG.len ?_)))
    first
    | (have hk:k=E.length:=by omega
       refine pif_f (by simp;omega) ?_
       unfold F179.B16
       refine nilK_mk (asP_mk (ld1_own oP rfl (hEG.len (pif_t (by simp;omega) ?_))))
       unfold F179.B15
       refine nilK_mk (asP_mk (ld1_own oP rfl (nilK_mk (asP_mk (ld1_own oP rfl (callV_mk ?_))))))
       apply F181.ac
       unfold F181.B2 F181.B1
       refine asB_mk ?_
       have kk:=kk G (AHeap.le_refl _)
       rw [hk,List.drop_length] at kk
       exact kk)
    | (have hk:k<E.length:=by omega
       refine pif_t (by simp;omega) ?_
       have hi:=hEr _ (List.getElem_mem hk)
       obtain ⟨i,hie⟩:∃ i:Nat,E[k]=(i:Int):=⟨(E[k]).toNat,by omega⟩
       have hget:E.getD k 0=(i:Int):=by rw [getD_of hk,hie]
       rw [hie] at hi
       have hil:i<es.length:=by omega
       have hci:c.getD i 0=-1:=by have:=hfree k (Nat.le_refl _) hk;rwa [hget,Int.toNat_natCast] at this
       have hdrop:E.drop k=(i:Int)::E.drop (k+1):=by rw [List.drop_eq_getElem_cons hk,hie]
       refine nilK_mk (asP_mk (ld1_own oP rfl (nilK_mk (asP_mk (ld1_own oP rfl (hEG.rd (by omega) (by omega) ?_))))))
       rw [Int.toNat_natCast,hget]
       refine oi.rd (by omega) (by omega) ?_
       rw [Int.toNat_natCast,hci]
       refine pif_f rfl ?_
       unfold F179.B16
       refine nilK_mk (asP_mk (ld1_own oP rfl (hEG.len (pif_f (by rw [beq_eq_false_iff_ne];omega) ?_))))
       unfold F179.B14
       refine nilK_mk (asP_mk (ld1_own oP rfl (hEG.rd (by omega) (by omega) ?_)))
       rw [Int.toNat_natCast,hget]
       obtain ⟨d1,d2,d3,d4,d5⟩:=hg.ed.ends es[i] (List.getElem_mem hil)
       rw [← getD_of (d:=(0,0)) hil] at d1 d2 d3 d4 d5
       obtain ⟨a,ha⟩:∃ a:Nat,(es.getD i (0,0)).1=a:=⟨(es.getD i (0,0)).1.toNat,by omega⟩
       obtain ⟨b,hb'⟩:∃ b:Nat,(es.getD i (0,0)).2=b:=⟨(es.getD i (0,0)).2.toNat,by omega⟩
       have hab:es.getD i (0,0)=((a:Int),(b:Int)):=by rw [← ha,← hb']
       unfold F179.B13
       obtain ⟨bb,oo,hk',c1,c2⟩:=(he.le h0).idx (show (0:Int)≤i by omega) (by omega)
       simp only [Int.toNat_natCast] at c1 c2
       refine nilK_mk (asP_mk (ld1_own oP rfl (hk' _ (ldI_mk c1 (ldI_mk c2 (newK_f rfl fun G1 l1 n1' o1=>stK_f o1 (by simp) (by simp [Value.oneCell']) rfl fun G2 b2 o2=>?_))))))
       have l2:G.le G2:=b2.le l1 (Nat.le_refl _)
       have o2:Own G2 G.length 28 [.int .i64 (a:Nat),.int .i64 (b:Nat)]:=by rw [ha,hb'] at o2;simpa using o2
       have hul:=hU.1
       unfold F179.B12 F179.L2
       refine ⟨fun x0 x1 x5 x6 x65 G'=>.pointer (some ⟨pb,0,none⟩)=x0∧((k:Nat):Int)=x1∧((i:Nat):Int)=x5∧G.length=x6∧G2.le G'∧∃ t:Nat,x65=t∧t≤3∧∀ x:Nat,x<t→¬ (clashB es c i (x:Int)=false∧ptB es (E.drop (k+1)) (c.set i (x:Int))=true),fun _ _ _ _ x65 _=>3-x65.toNat,⟨rfl,rfl,rfl,rfl,AHeap.le_refl _,0,rfl,by omega,fun x hx=>absurd hx (by omega)⟩,?_⟩
       rintro x0 x1 x5 x6 x65 G3 ⟨rfl,rfl,rfl,rfl,hG3,t,rfl,ht,hno⟩
       have lG3:=AHeap.le_trans l2 hG3
       have h03:=AHeap.le_trans h0 lG3
       have oP3:=oP.le lG3
       have oc3:=oc.le lG3
       have ou3:=ou.le lG3
       have o23:=o2.le hG3
       unfold F179.B11
       refine pif_cases (fun hb=>?_) fun hb=>?_
       · have ht3:t<3:=by have:=of_decide_eq_true hb;omega
         have hua:=(hU.2 a (by omega)).1
         have hub':=(hU.2 b (by omega)).1
         unfold F179.B10 F179.B9
         refine nilK_mk (asP_mk (ld1_own oP3 rfl (ldI_own o23 rfl (own_idx (by omega) (by omega) (ldI_own ou3 (by rw [Int.toNat_natCast];exact LUget2 (by omega)) (nilK_mk (asP_mk (ld1_own oP3 rfl (ldI_own o23 rfl (own_idx (by omega) (by omega) (ldI_own ou3 (by rw [Int.toNat_natCast];exact LUget2 (by omega)) ?_)))))))))))
         rw [bits_or hua hub']
         refine has_ok (or_lt hua hub') (by omega) (asB_mk ?_)
         rw [Int.toNat_natCast,used_clash hU hab (by omega) (by omega)]
         refine pif_cases (fun hb=>?_) fun hb=>?_
         · unfold F179.B3
           rw [wrap_id (by omega) (by omega)]
           refine ⟨⟨rfl,rfl,rfl,rfl,hG3,t+1,by omega,by omega,fun x hx=>?_⟩,by simp;omega⟩
           by_cases e:x=t
           · subst e;rw [hb];simp
           · exact hno x (by omega)
         · have hcl2:=hb
           unfold F179.B8
           refine give_ok (x:=t) hg he h03 hcb hub hne hp1 hp2 oP3 oc3 ou3 hcl hul (fun w hw=>(hU.2 w hw).1) hil (by omega) fun G4 t4 oc4 ou4=>asTup_mk ?_
           rw [ha,hb',Int.toNat_natCast,Int.toNat_natCast] at ou4
           have hU4:=hU.give (x:=t) (by omega) hci hab (by omega) (by omega) (by omega) (by omega)
           have h04:=t4.base h03 hcb hub
           have oP4:Own G4 pb tP _:=t4.old pb _ hp1 hp2 oP3
           unfold F179.B7
           rw [wrap_id (by omega) (by omega),show ((k:Nat):Int)+1=((k+1:Nat):Int) by omega]
           refine ih (k+1) (c.set i (t:Int)) _ G4 _ (by omega) h04 oP4 oc4 ou4 (by simpa using hcl) hU4 (fun j h1 h2=>?_) fun G5 l5=>asB_mk ?_
           · have hj:=hfree j (by omega) h2
             have hji:E.getD j 0≠(i:Int):=fun e=>by
               rw [getD_of h2,← hie] at e
               have:=(List.getElem_inj hEn).1 e;omega
             have hj0:=hEr _ (List.getElem_mem h2)
             rw [← getD_of (d:=0) h2] at hj0
             rw [getD_set_ne (by omega)];exact hj
           · have oP5:=oP4.le l5
             have oc5:=oc4.le l5
             have ou5:=ou4.le l5
             unfold F179.B6
             refine take_ok (x:=t) hg he (AHeap.le_trans h04 l5) hcb hub hne hp1 hp2 oP5 oc5 ou5 (by simpa using hcl) hU4.1 (fun w hw=>(hU4.2 w hw).1) hil (by omega) (getD_set_self (by omega)) fun G6 t6 oc6 ou6=>asTup_mk ?_
             have hback:(c.set i (t:Int)).set i (-1)=c:=by
               rw [List.set_set,← hci,getD_of (by omega:i<c.length)];exact List.set_getElem_self _
             rw [hback] at oc6
             have hbit:=used_clash (x:=t) hU hab (by omega) (by omega)
             rw [hcl2,Nat.testBit_or,Bool.or_eq_false_iff] at hbit
             rw [ha,hb',Int.toNat_natCast,Int.toNat_natCast,give_take (by omega) (by omega) (by omega) (by omega) hua hub' hbit.1 hbit.2] at ou6
             have l36:G3.le G6:=(t4.trans ((Two.le l5).trans t6)).same oc3 oc6 ou3 ou6
             unfold F179.B5
             refine pif_cases (fun hb=>?_) fun hb=>?_
             · unfold F179.B4
               have kk:=kk G6 (AHeap.le_trans lG3 l36)
               have:ptB es (E.drop k) c=true:=by
                 rw [hdrop,ptB_cons,Int.toNat_natCast]
                 exact ⟨t,ht3,hcl2,hb⟩
               rw [this] at kk;exact kk
             · unfold F179.B3
               rw [wrap_id (by omega) (by omega)]
               refine ⟨⟨rfl,rfl,rfl,rfl,AHeap.le_trans hG3 l36,t+1,by omega,by omega,fun x hx=>?_⟩,by simp;omega⟩
               by_cases e:x=t
               · subst e;rw [hb];simp
               · exact hno x (by omega)
       · have ht3:t=3:=by have:=of_decide_eq_false hb;omega
         subst ht3
         unfold F179.B1
         have kk:=kk G3 lG3
         have:ptB es (E.drop k) c=false:=by
           rw [← Bool.not_eq_true,hdrop,ptB_cons,Int.toNat_natCast]
           rintro ⟨x,h1,h2⟩
           exact hno x h1 h2
         rw [this] at kk;exact kk)
end
end Go.Proofs
namespace Go.Proofs
open Go.Abs

variable {H G:AHeap} {v u f:Value} {l m c D:List Int} {es fs:List (Int × Int)} {K:Value→AHeap→Prop}

theorem used_none {N m:Nat}:UsedOk es N (List.replicate m (-1)) (List.replicate N 0):=by
 refine ⟨by simp,fun w hw=>?_⟩
 have e:(List.replicate N 0).getD w 0=0:=by simp [List.getD,hw]
 rw [e]
 refine ⟨by decide,fun k=>?_⟩
 simp only [Nat.zero_testBit,Bool.false_eq_true,false_iff]
 rintro ⟨j,h1,h2,_⟩
 rw [List.length_replicate] at h1
 have:(List.replicate m (-1:Int)).getD j 0=-1:=by simp [List.getD,h1]
 omega
theorem rep_get {m i:Nat} (h:i<m):(List.replicate m (-1:Int)).getD i 0=-1:=by simp [List.getD,h]
section
variable {n:Int} {H0:AHeap} {pb cb ub:Nat} {tP:TypeId} {qE:Value}
theorem start_ok {E:List Int} (hg:IsG n es) (he:Edges H0 v es) (hE:Ints H0 qE E) (hEn:E.Nodup) (hEr:∀ x∈E,0≤x∧x<es.length) (hcb:H0.length≤cb) (hub:H0.length≤ub) (hne:cb≠ub) (hp1:pb≠cb) (hp2:pb≠ub) (h0:H0.le G)
 (oP:Own G pb tP [.int .i64 n,v,qE,.slice (some ⟨cb,0,none⟩) es.length (es.length+1),.slice (some ⟨ub,0,none⟩) n.toNat (n.toNat+1),foundV])
 (oc:Own G cb 2 (LI (List.replicate es.length (-1)))) (ou:Own G ub 83 (LU (List.replicate n.toNat 0))) (k:∀ G',G.le G'→K (.bool (ptB es E (List.replicate es.length (-1)))) G') :
 AC Tryz.prog T0 128 [.pointer (some ⟨pb,0,none⟩)] G K:=by
 have n0:=hg.ed.lo;have n1:=hg.ed.hi
 have h30:es.length≤30:=by have:=hg.ed.len;omega
 apply F128.ac
 unfold F128.B17 F128.B16
 refine nilK_mk (asP_mk (ldI_own oP rfl ?_))
 unfold F128.L2
 refine ⟨fun x0 x11 x12 G'=>.pointer (some ⟨pb,0,none⟩)=x0∧n=x11∧G.le G'∧∃ i:Nat,x12=i∧i≤n.toNat,fun _ _ x12 _=>n.toNat-x12.toNat,⟨rfl,rfl,AHeap.le_refl _,0,rfl,by omega⟩,?_⟩
 rintro x0 x11 x12 G1 ⟨rfl,rfl,l1,i,rfl,hi⟩
 unfold F128.B15
 have oP1:=oP.le l1
 refine pif_cases (fun hb=>?_) fun hb=>?_
 ·have hin:i<n.toNat:=by have:=of_decide_eq_true hb;omega
  unfold F128.B14 F128.B13 F128.B12
  refine nilK_mk (asP_mk (ldI_own oP1 rfl (ld1_own oP1 rfl (at_ok (he.le (AHeap.le_trans h0 l1)) (by omega) fun w G2 l2 hW=>?_))))
  have h3:=hg.three (v:=(i:Int)) (by omega) (by omega)
  refine hW.len (by decide) (n:=3) (by rw [List.length_map,h3]) ?_
  unfold F128.L4
  refine ⟨fun x0 x4 x11 x12 x20 x21 x22 G'=>.pointer (some ⟨pb,0,none⟩)=x0∧n=x11∧((i:Nat):Int)=x12∧w=x20∧((3:Nat):Int)=x21∧G2=G'∧∃ t:Nat,x22=t∧t≤3,fun _ _ _ _ _ _ x22 _=>3-x22.toNat,⟨rfl,rfl,rfl,rfl,rfl,rfl,0,rfl,by omega⟩,?_⟩
  rintro x0 x4 x11 x12 x20 x21 x22 G' ⟨rfl,rfl,rfl,rfl,rfl,rfl,t,rfl,ht⟩
  have l12:=AHeap.le_trans l1 l2
  have oP2:=oP.le l12
  have oi:=own_ints (c:=es.length+1) (oc.le l12)
  rw [List.length_replicate] at oi
  unfold F128.B11
  refine pif_cases (fun hb=>?_) fun hb=>?_
  ·have ht3:t<3:=by have:=of_decide_eq_true hb;omega
   obtain ⟨j,hj1,hj2,hj3⟩:=at_get (es:=es) (w:=(i:Int)) (t:=t) (by omega)
   unfold F128.B10
   refine hW.ints.rd (by omega) (by omega) ?_
   rw [Int.toNat_natCast,hj1]
   unfold F128.B9
   refine nilK_mk (asP_mk (ld1_own oP2 rfl (oi.rd (by omega) (by rw [List.length_replicate];omega) ?_)))
   rw [Int.toNat_natCast,rep_get hj2]
   refine pif_t rfl ?_
   unfold F128.B5
   rw [wrap_id (by omega) (by omega)]
   exact ⟨⟨rfl,rfl,rfl,rfl,rfl,rfl,t+1,by omega,by omega⟩,by show 3-((t:Int)+1).toNat<3-(t:Int).toNat;omega⟩
  ·unfold F128.B3
   rw [wrap_id (by omega) (by omega)]
   exact ⟨⟨rfl,rfl,l12,i+1,by omega,by omega⟩,by show n.toNat-((i:Int)+1).toNat<n.toNat-(i:Int).toNat;omega⟩
 ·unfold F128.B1
  refine paint_ok hg he hE hEn hEr hcb hub hne hp1 hp2 E.length 0 _ _ G1 _ (by omega) (AHeap.le_trans h0 l1) oP1 (oc.le l1) (ou.le l1) (by simp) used_none (fun j _ h2=>?_) fun G2 l2=>asB_mk ?_
  ·have:=hEr _ (List.getElem_mem h2)
   rw [← getD_of (d:=0) h2] at this
   exact rep_get (by omega)
  ·rw [List.drop_zero]
   exact k G2 (AHeap.le_trans l1 l2)
end
theorem painterOf_ok {n:Int} {qE:Value} (hg:IsG n es) (he:Edges H v es) (hq:qE.oneCell'=true)
 (k:∀ pb cb ub tP G,H.le G→H.length≤cb→H.length≤ub→cb≠ub→pb≠cb→pb≠ub→Own G pb tP [.int .i64 n,v,qE,.slice (some ⟨cb,0,none⟩) es.length (es.length+1),.slice (some ⟨ub,0,none⟩) n.toNat (n.toNat+1),foundV]→
  Own G cb 2 (LI (List.replicate es.length (-1)))→Own G ub 83 (LU (List.replicate n.toNat 0))→K (.pointer (some ⟨pb,0,none⟩)) G) :
 AC Tryz.prog T0 126 [.agg ⟨[.int .i64 n,v]⟩,qE,.bool false,foundV] H K:=by
 have n0:=hg.ed.lo;have n1:=hg.ed.hi
 have h30:es.length≤30:=by have:=hg.ed.len;omega
 have hv:=edges_one' he
 apply F126.ac
 unfold F126.B10
 refine newK_f (all_iv hv) fun H1 l1 n1' o1=>?_
 have fin:∀ (G G':AHeap) (cb ub pb:Nat) (tP:TypeId),H1.le G→H1.length≤cb→H1.length≤ub→cb≠ub→pb≠cb→pb≠ub→Own G pb tP [.int .i64 n,v,qE,.slice (some ⟨cb,0,none⟩) es.length (es.length+1),.slice (some ⟨ub,0,none⟩) n.toNat (n.toNat+1),foundV]→
  Own G cb 2 (LI (List.replicate es.length (-1)))→Own G ub 83 (LU (List.replicate n.toNat 0))→F126.B8 K false H.length (.pointer (some ⟨pb,0,none⟩)) G:=by
  intro G G' cb ub pb tP hG h1 h2 h3 h4 h5 oP oc ou
  unfold F126.B8
  refine pif_f rfl ?_
  unfold F126.B1
  have:=l1.1
  exact k pb cb ub tP G (AHeap.le_trans l1 hG) (by omega) (by omega) h3 h4 h5 oP oc ou
 unfold F126.B9
 refine ldI_own o1 rfl (ld1_own o1 rfl (ld1_own o1 rfl ((he.le l1).len (ldI_own o1 rfl ⟨newK_f rfl fun H2 l2 n2 o2=>⟨?_,?_⟩,?_⟩))))
 ·have hb2:0≤0:=Nat.le_refl 0
  refine repeat_ok (t:=-1) (by simpa using o2) (by omega) (by omega) fun H3 l3 o3=>?_
  have l13:=AHeap.le_trans l2 l3
  refine ⟨ldI_own (o1.le l13) rfl (ld1_own (o1.le l13) rfl ⟨rfl,rfl⟩),ldI_own (o1.le l13) rfl ⟨rfl,rfl⟩,mkR_int (by omega) (by omega) (by decide) fun H4 l4 n4 o4=>pif_t hq (pif_t rfl (pif_t rfl (pif_t rfl (newK_f (by simp only [List.all_cons,List.all_nil,hv,hq];rfl) fun H5 l5 n5 o5=>?_))))⟩
  rw [rep_u] at o4
  have:=lt_of_get o3
  have:=l2.1
  exact fin H5 H5 _ _ _ _ (AHeap.le_trans l13 (AHeap.le_trans l4 l5)) (by omega) (by have:=l3.1;omega) (by omega) (by have:=l4.1;omega) (by omega) o5 (o3.le (AHeap.le_trans l4 l5)) (o4.le l5)
 ·refine mkR_int (by omega) (by omega) (by decide) fun H3 l3 n3 o3=>repeat_ok (t:=-1) (by simpa using o2.le l3) (by omega) (by omega) fun H4 l4 o4=>?_
  have l14:=AHeap.le_trans l2 (AHeap.le_trans l3 l4)
  refine ⟨ldI_own (o1.le l14) rfl (ld1_own (o1.le l14) rfl ⟨rfl,rfl⟩),ldI_own (o1.le l14) rfl ⟨rfl,rfl⟩,pif_t hq (pif_t rfl (pif_t rfl (pif_t rfl (newK_f (by simp only [List.all_cons,List.all_nil,hv,hq];rfl) fun H5 l5 n5 o5=>?_))))⟩
  rw [rep_u] at o3
  have:=lt_of_get o4
  have:=l2.1
  exact fin H5 H5 _ _ _ _ (AHeap.le_trans l14 l5) (by have:=l3.1;omega) (by omega) (by omega) (by omega) (by have:=l4.1;omega) o5 (o4.le l5) (o3.le (AHeap.le_trans l4 l5))
 ·refine mkR_int (by omega) (by omega) (by decide) fun H2 l2 n2 o2=>newK_f rfl fun H3 l3 n3 o3=>repeat_ok (t:=-1) (by simpa using o3) (by omega) (by omega) fun H4 l4 o4=>?_
  have l14:=AHeap.le_trans l2 (AHeap.le_trans l3 l4)
  refine ⟨ldI_own (o1.le l14) rfl (ld1_own (o1.le l14) rfl ⟨rfl,rfl⟩),ldI_own (o1.le l14) rfl ⟨rfl,rfl⟩,pif_t hq (pif_t rfl (pif_t rfl (pif_t rfl (newK_f (by simp only [List.all_cons,List.all_nil,hv,hq];rfl) fun H5 l5 n5 o5=>?_))))⟩
  rw [rep_u] at o2
  have:=lt_of_get o4
  exact fin H5 H5 _ _ _ _ (AHeap.le_trans l14 l5) (by have:=l2.1;have:=l3.1;omega) (by omega) (by have:=l3.1;omega) (by omega) (by have:=l3.1;have:=l4.1;omega) o5 (o4.le l5) (o2.le (AHeap.le_trans l3 (AHeap.le_trans l4 l5)))
theorem filt_mem {S:Nat→Bool} {m:Nat} {x:Int} (h:x∈filtB S m):0≤x∧x<m:=by
 unfold filtB at h
 obtain ⟨j,h1,rfl⟩:=List.mem_map.1 h
 have:=List.mem_range.1 (List.mem_filter.1 h1).1
 exact ⟨Int.natCast_nonneg j,by show ((j:Nat):Int)<m;omega⟩
theorem isPaintable_ok {n:Int} (hg:IsG n es) (he:Edges H v es) (hs:IsS l es.length) (k:∀ G,H.le G→K (.bool (wkQ es l)) G) :
 AC Tryz.prog T0 138 [.agg ⟨[.int .i64 n,v]⟩,.int .u64 (setN l:Nat)] H K:=by
 have n0:=hg.ed.lo;have n1:=hg.ed.hi
 have h30:es.length≤30:=by have:=hg.ed.len;omega
 have hsn:setN l<2^64:=setN_lt fun x hx=>by have:=hs.range x hx;omega
 have hp:2^es.length≤2^30:=Nat.pow_le_pow_right (by decide) h30
 have hfull:2^es.length-1<2^64:=by
  have:(2:Nat)^30<2^64:=by decide
  omega
 apply F138.ac
 unfold F138.B3
 refine newK_f (all_iv (edges_one' he)) fun H1 l1 n1' o1=>?_
 unfold F138.B2
 refine ldI_own o1 rfl (ld1_own o1 rfl (every_ok (he.le l1) (by omega) fun H2 l2=>asI_mk ?_))
 rw [bits_andnot hfull hsn]
 refine list_ok (Nat.lt_of_le_of_lt Nat.and_le_left hfull) fun w H3 l3 f3=>?_
 have eB:bitsL ((2^es.length-1)&&&(2^64-(setN l+1)))=filtB (fun j=>!bitB l j) es.length:=by
  have hb:∀ j,((2^es.length-1)&&&(2^64-(setN l+1))).testBit j=(decide (j<es.length)&&!bitB l j):=fun j=>by
   rw [andnot_bit hfull hsn,Nat.testBit_two_pow_sub_one];rfl
  rw [bitsL_filt (n:=es.length) (by omega) fun j hj=>by rw [hb,Bool.and_eq_true] at hj;exact of_decide_eq_true hj.1]
  exact filtB_congr fun j hj=>by rw [hb,decide_eq_true hj,Bool.true_and]
 rw [eB] at f3
 have l13:=AHeap.le_trans l1 (AHeap.le_trans l2 l3)
 have o3:=o1.le (AHeap.le_trans l2 l3)
 unfold F138.B1
 refine ldI_own o3 rfl (ld1_own o3 rfl (painterOf_ok hg (he.le l13) (ints_one f3.ints) fun pb cb ub tP G lG h1 h2 h3 h4 h5 oP oc ou=>?_))
 refine start_ok hg (he.le l13) f3.ints (filtB_nodup _ _) (fun x hx=>filt_mem hx) h1 h2 h3 h4 h5 lG oP oc ou fun G2 l4=>asB_mk ?_
 rw [← wkQ_pt]
 exact k G2 (AHeap.le_trans l13 (AHeap.le_trans lG l4))
end Go.Proofs
