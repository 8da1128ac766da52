/- Contracts and plain mathematics for a law, merged. -/
import Derived.StringKeys
import Derived.Test.YtngacbdogjmpaaaGreatX35Q1
set_option linter.unusedVariables false
set_option linter.unusedSimpArgs false
set_option maxRecDepth 100000
namespace Go.Proofs
open Go.Abs

variable {H G:AHeap} {v u f w:Value} {es fs S:List (Int × Int)} {K:Value→AHeap→Prop}

section
variable {α:Type} {d:α} {c:α→α→Int} {S:List α} {j:Nat} {x:α}
theorem insG_sorted (hc:Cmp c) (hS:S.Pairwise (LeC c)) (hj:j≤S.length) (h1:∀ q,j≤q→q<S.length→c x (S.getD q d)<0) (h2:j=0∨¬ c x (S.getD (j-1) d)<0):(S.take j++([x]++S.drop j)).Pairwise (LeC c):=by
 have hS':=hS
 rw [← List.take_append_drop j S,List.pairwise_append] at hS'
 obtain ⟨p1,p2,p3⟩:=hS'
 rw [List.pairwise_append]
 refine ⟨p1,?_,fun a ha b hb=>?_⟩
 ·rw [List.singleton_append,List.pairwise_cons]
  refine ⟨fun b hb=>?_,p2⟩
  obtain ⟨i,hi,rfl⟩:=List.getElem_of_mem hb
  rw [List.length_drop] at hi
  have:=h1 (j+i) (by omega) (by omega)
  rw [getD_of (by omega)] at this
  rw [List.getElem_drop];exact hc.lt this
 ·rw [List.singleton_append,List.mem_cons] at hb
  rcases hb with rfl|hb
  ·obtain ⟨i,hi,rfl⟩:=List.getElem_of_mem ha
   rw [List.length_take] at hi
   rw [List.getElem_take]
   rcases h2 with h2|h2
   ·omega
   ·rw [getD_of (by omega)] at h2
    by_cases e:i=j-1
    ·subst e;exact h2
    ·exact hc.tr _ _ _ ((List.pairwise_iff_getElem.1 hS) i (j-1) (by omega) (by omega) (by omega)) h2
  ·exact p3 a ha b hb
theorem insG_perm:(S.take j++([x]++S.drop j)).Perm (S++[x]):=by
 have h1:(S.take j++([x]++S.drop j)).Perm (S.take j++(S.drop j++[x])):=List.Perm.append_left _ List.perm_append_comm
 have e:S.take j++(S.drop j++[x])=S++[x]:=by rw [← List.append_assoc,List.take_append_drop]
 rw [← e];exact h1
end
theorem cmpE_ord:Cmp cmpE:=⟨fun x y z h1 h2=>by
 rw [cmpE_neg] at *;unfold ltE at *;omega,fun x y h=>by rw [cmpE_neg] at *;unfold ltE at *;omega⟩
def nrmE (e:Int × Int):Int × Int:=(if e.2<e.1 then e.2 else e.1,if e.2>e.1 then e.2 else e.1)
noncomputable def srtE (l:List (Int × Int)):List (Int × Int):=l.mergeSort fun a b=>decide (LeC cmpE a b)
theorem srtE_perm (l:List (Int × Int)):(srtE l).Perm l:=List.mergeSort_perm _ _
theorem srtE_eq {l:List (Int × Int)} (h1:S.Pairwise (LeC cmpE)) (h2:S.Perm l):S=srtE l:=by
 refine sorted_same (le:=LeC cmpE) (fun a b h1 h2=>?_) h1 ?_ (h2.trans (srtE_perm l).symm)
 ·have e1:¬ ltE b a:=fun h=>h1 ((cmpE_neg _ _).2 h)
  have e2:¬ ltE a b:=fun h=>h2 ((cmpE_neg _ _).2 h)
  unfold ltE at e1 e2
  exact Prod.ext (by omega) (by omega)
 ·have:=List.pairwise_mergeSort (le:=fun a b=>decide (LeC cmpE a b)) (fun a b c h1 h2=>by
   rw [decide_eq_true_iff] at *;exact cmpE_ord.tr _ _ _ h1 h2) (fun a b=>by
   by_cases h:cmpE a b<0
   ·rw [Bool.or_eq_true];left;exact decide_eq_true (cmpE_ord.lt h)
   ·rw [Bool.or_eq_true];right;exact decide_eq_true h) l
  exact this.imp fun h=>of_decide_eq_true h
theorem srtE_length (l:List (Int × Int)):(srtE l).length=l.length:=(srtE_perm l).length_eq
theorem fresh_neE {m0:Nat} (h:Fresh m0 H v 66 2 (LE es)) (hl:0<es.length):∃ b,m0≤b∧v=.slice (some ⟨b,0,none⟩) es.length (es.length+1)∧Own H b 66 (LE es):=by
 rcases h with ⟨h0,_⟩|⟨b,n,hb,rfl,h3,h4⟩
 ·have:=congrArg List.length h0;rw [LE_length,List.length_nil] at this;omega
 ·rw [LE_length] at h4
  have hn:n=es.length:=by omega
  subst hn
  exact ⟨b,hb,rfl,h3⟩
theorem own_idx2 {b n:Nat} {x:Int} {K:Nat→Nat→Prop} (h0:0≤x) (h1:x<n) (k:K b (x.toNat*2)):idxK (.slice (some ⟨b,0,none⟩) n (n+1)) x 2 K:=⟨h0,h1,by simpa using k⟩
theorem own_edge {b n j:Nat} {K:Int→Int→Prop} (o:Own H b 66 (LE S)) (hn:S.length=n) (hj:j<n) (k:K (S.getD j (0,0)).1 (S.getD j (0,0)).2):idxK (.slice (some ⟨b,0,none⟩) n (n+1)) (j:Int) 2 (fun b o=>ldI .i64 H b o fun p=>ldI .i64 H b (o+1) fun q=>K p q):=by
 obtain ⟨g1,g2⟩:=LE_get S j (S.getD j (0,0)) (by rw [getD_of (by omega)];exact List.getElem?_eq_getElem (by omega))
 refine own_idx2 (by omega) (by omega) ?_
 rw [Int.toNat_natCast]
 exact ldI_own o g1 (ldI_own o g2 k)
theorem set_edge {b n j:Nat} {x:Int × Int} {K:AHeap→Prop} (o:Own H b 66 (LE S)) (hn:S.length=n) (hj:j<n) (k:∀ G,But b H G→Own G b 66 (LE (S.set j x))→K G) :
 idxK (.slice (some ⟨b,0,none⟩) n (n+1)) (j:Int) 2 (fun b o=>stK H b o [.int .i64 x.1,.int .i64 x.2] K):=by
 have LL:=LE_length S
 refine own_idx2 (by omega) (by omega) (stK_f (new:=LE (S.set j x)) o (by rw [LL,Int.toNat_natCast];show j*2+2≤_;omega) (by simp [Value.oneCell']) (by rw [Int.toNat_natCast];exact LE_set S x (by omega)) k)
theorem l01Sort_ok (h:Edges H v es) (hl:es.length≤1048576) (k:∀ v' G,H.le G→Fresh H.length G v' 66 2 (LE (srtE (es.map nrmE)))→K v' G):AC Tryz.prog T0 192 [v] H K:=by
 apply F192.ac
 unfold F192.B14 F192.B13
 refine newK_f rfl fun H1 l1 n1 o1=>?_
 unfold F192.B12 F192.L2
 refine ⟨fun x0 x3 x4 G=>v=x0∧H.le G∧∃ (i bo:Nat) (S:List (Int × Int)),x4=i∧i≤es.length∧H.length≤bo∧x3=.slice (some ⟨bo,0,none⟩) S.length (S.length+1)∧Own G bo 66 (LE S)∧S.Pairwise (LeC cmpE)∧S.Perm ((es.take i).map nrmE),
  fun _ _ x4 _=>es.length-x4.toNat,⟨rfl,l1,0,H.length,[],rfl,by omega,Nat.le_refl _,rfl,o1,List.Pairwise.nil,by simp⟩,?_⟩
 rintro x0 x3 x4 G ⟨rfl,lG,i,bo,S,rfl,hi,hbo,rfl,oS,sS,pS⟩
 have hSl:S.length=i:=by have:=pS.length_eq;rw [List.length_map,List.length_take] at this;omega
 unfold F192.B11
 refine (h.le lG).len (pif_cases (fun hb=>?_) fun hb=>?_)
 rotate_left
 ·have hil:i=es.length:=by have:=of_decide_eq_false hb;omega
  subst hil
  rw [List.take_length] at pS
  unfold F192.B1
  refine k _ G lG (.inr ⟨bo,S.length,hbo,rfl,?_,?_⟩)
  ·rw [← srtE_eq sS pS];exact oS
  ·rw [← srtE_eq sS pS,LE_length]
 have hil:i<es.length:=by have:=of_decide_eq_true hb;omega
 obtain ⟨eb,eo,hk,c1,c2⟩:=(h.le lG).idx (show (0:Int)≤i by omega) (by omega)
 simp only [Int.toNat_natCast] at c1 c2
 obtain ⟨e,he⟩:∃ e,e=nrmE (es.getD i (0,0)):=⟨_,rfl⟩
 have hbl:=oS.lt
 unfold F192.B10
 refine hk _ (ldI_mk c1 (hk _ (ldI_mk c2 (hk _ (ldI_mk c1 (hk _ (ldI_mk c2 (lenK_of (newK_f rfl fun G1 l1' n1' o1'=>stK_f (new:=[.int .i64 e.1,.int .i64 e.2]) o1' (by simp) (by simp [Value.oneCell']) (by rw [he];rfl) fun G2 b2 o2=>?_)))))))))
 have l2:G.le G2:=b2.le l1' (Nat.le_refl _)
 have lG2:=AHeap.le_trans lG l2
 have oS2:=oS.le l2
 unfold F192.B9
 refine ldI_own o2 rfl (ldI_own o2 rfl ?_)
 refine Sl.pushN (m:=H.length) E_edge (by decide) (Fresh.sl (.inr ⟨bo,S.length,hbo,rfl,oS2,LE_length S⟩)) lG2.1 (n:=1) (ys:=[.int .i64 e.1,.int .i64 e.2]) rfl rfl (by rw [LE_length];simp;omega) (by simp) fun v' G3 k3 ot3 nb3 f3=>?_
 have f3:Fresh H.length G3 v' 66 2 (LE (S++[e])):=by rw [LE_append];exact f3
 obtain ⟨b3,hb3,rfl,o3⟩:=fresh_neE f3 (by simp)
 have hn3:G2.length≤b3:=nb3 b3 rfl
 have lG3:H.le G3:=k3.le lG2 (Nat.le_refl _)
 have ox3:Own G3 G.length 66 [.int .i64 e.1,.int .i64 e.2]:=ot3 _ _ (fun hv=>by cases hv;omega) o2
 have hlen3:(S++[e]).length=S.length+1:=by simp
 rw [hlen3]
 unfold F192.L5
 refine ⟨fun x0 x3 x4 x5 x6 G'=>v=x0∧.slice (some ⟨b3,0,none⟩) (S.length+1) (S.length+1+1)=x3∧(i:Int)=x4∧G.length=x5∧H.le G'∧Own G' G.length 66 [.int .i64 e.1,.int .i64 e.2]∧∃ (j:Nat) (g:Int × Int),x6=j∧j≤S.length∧Own G' b3 66 (LE (S.take j++([g]++S.drop j)))∧∀ q,j≤q→q<S.length→cmpE e (S.getD q (0,0))<0,
  fun _ _ _ _ x6 _=>x6.toNat,⟨rfl,rfl,rfl,rfl,lG3,ox3,S.length,e,rfl,Nat.le_refl _,by rw [List.take_length,List.drop_length,List.append_nil];exact o3,fun q h1 h2=>by omega⟩,?_⟩
 clear ox3 o3 f3 ot3 nb3 lG3 k3
 rintro x0 x3 x4 x5 x6 G' ⟨rfl,rfl,rfl,rfl,lG',oe,j,g,rfl,hj,oj,hgt⟩
 have hbG:G.length<b3:=by have:=b2.len;omega
 obtain ⟨T,hT⟩:∃ T,T=S.take j++([g]++S.drop j):=⟨_,rfl⟩
 have hTl:T.length=S.length+1:=by rw [hT];simp [Nat.min_eq_left hj];omega
 have hTj:∀ x,T.set j x=S.take j++([x]++S.drop j):=fun x=>by
  rw [hT,List.set_append_right _ _ (by simp;omega)]
  simp [Nat.min_eq_left hj]
 rw [← hT] at oj
 have next:(j=0∨¬ cmpE e (S.getD (j-1) (0,0))<0)→∀ G',H.le G'→Own G' b3 66 (LE T)→Own G' G.length 66 [.int .i64 e.1,.int .i64 e.2]→F192.B4 K (fun z0 z3 z4 G''=>(v=z0∧H.le G''∧∃ (i bo:Nat) (S:List (Int × Int)),z4=i∧i≤es.length∧H.length≤bo∧z3=.slice (some ⟨bo,0,none⟩) S.length (S.length+1)∧Own G'' bo 66 (LE S)∧S.Pairwise (LeC cmpE)∧S.Perm ((es.take i).map nrmE))∧es.length-z4.toNat<es.length-(i:Int).toNat) v (.slice (some ⟨b3,0,none⟩) (S.length+1) (S.length+1+1)) i G.length j G':=by
  intro hst G' lG' oj oe
  unfold F192.B4
  refine ldI_own oe rfl (ldI_own oe rfl (set_edge (x:=e) oj hTl (by omega) fun G5 b5 o5=>?_))
  rw [hTj] at o5
  unfold F192.B3
  rw [wrap_id (by omega) (by omega)]
  have hlen:(S.take j++([e]++S.drop j)).length=S.length+1:=by simp [Nat.min_eq_left hj];omega
  refine ⟨⟨rfl,b5.le lG' hb3,i+1,b3,_,by omega,by omega,hb3,by rw [hlen],o5,insG_sorted (d:=(0,0)) cmpE_ord sS hj hgt hst,insG_perm.trans ?_⟩,by omega⟩
  rw [List.take_succ_eq_append_getElem hil,List.map_append,List.map_singleton,he,getD_of hil]
  exact pS.append_right _
 unfold F192.B8
 refine pif_cases (fun hb=>?_) fun hb=>next (.inl (by have:=of_decide_eq_false hb;omega)) G' lG' oj oe
 have hj0:0<j:=by have:=of_decide_eq_true hb;omega
 have hT1:T.getD (j-1) (0,0)=S.getD (j-1) (0,0):=by
  rw [hT]
  simp [List.getD,List.getElem?_append_left (show j-1<(S.take j).length by simp;omega),List.getElem?_take_of_lt (show j-1<j by omega)]
 have w1:IntKind.i64.wrap ((j:Int)-1)=((j-1:Nat):Int):=wr (by omega) (by omega)
 rw [w1]
 refine ldI_own oe rfl (ldI_own oe rfl (own_edge (j:=j-1) oj hTl (by omega) ?_))
 rw [hT1]
 refine l01Before_ok (a:=e) (b:=S.getD (j-1) (0,0)) fun G5 l5=>asB_mk (pif_cases (fun hq=>?_) fun hq=>?_)
 ·have hlt:=(cmpE_neg _ _).2 (of_decide_eq_true hq)
  have oj5:=oj.le l5
  unfold F192.B7
  rw [w1]
  refine own_edge (j:=j-1) oj5 hTl (by omega) ?_
  rw [hT1]
  refine set_edge (x:=S.getD (j-1) (0,0)) oj5 hTl (by omega) fun G6 b6 o6=>?_
  rw [hTj] at o6
  unfold F192.B6
  rw [w1]
  refine ⟨⟨rfl,rfl,rfl,rfl,b6.le (AHeap.le_trans lG' l5) hb3,b6.own (oe.le l5) (by omega),j-1,S.getD (j-1) (0,0),rfl,by omega,?_,fun q h1 h2=>?_⟩,?_⟩
  ·have e1:S.take (j-1)++([S.getD (j-1) (0,0)]++S.drop (j-1))=S.take j++([S.getD (j-1) (0,0)]++S.drop j):=by
    obtain ⟨j',rfl⟩:∃ j',j=j'+1:=⟨j-1,by omega⟩
    rw [Nat.add_sub_cancel,getD_of (show j'<S.length by omega),List.drop_eq_getElem_cons (show j'<S.length by omega),List.take_succ_eq_append_getElem (show j'<S.length by omega),List.append_assoc]
    rfl
   rw [e1];exact o6
  ·by_cases e2:q=j-1
   ·subst e2;exact hlt
   ·exact hgt q (by omega) h2
  ·show ((j-1:Nat):Int).toNat<((j:Nat):Int).toNat
   omega
 ·exact next (.inr fun hc=>of_decide_eq_false hq ((cmpE_neg _ _).1 hc)) G5 (AHeap.le_trans lG' l5) (oj.le l5) (oe.le l5)
theorem fresh_one {m0:Nat} (h:Fresh m0 H v 66 2 (LE es)):v.oneCell'=true:=edges_one' h.edges
theorem l01Made_ok {n:Int} (h:Edges H v es) (hl:es.length≤1048576) (k:∀ v' G,H.le G→Fresh H.length G v' 66 2 (LE (srtE (es.map nrmE)))→K (.agg ⟨[.int .i64 n,v']⟩) G):AC Tryz.prog T0 158 [.int .i64 n,v] H K:=by
 apply F158.ac
 unfold F158.B2
 refine newK_f rfl fun H1 l1 n1 o1=>?_
 unfold F158.B1
 refine l01Sort_ok (h.le l1) hl fun v' G l2 f2=>pif_t (fresh_one f2) (stK_f (new:=[.int .i64 n,v']) (o1.le l2) (by simp) (mem_iv (fresh_one f2)) rfl fun G3 b3 o3=>ldI_own o3 rfl (ld1_own o3 rfl ?_))
 have hl1:=l1.1
 exact k v' G3 (b3.le (AHeap.le_trans l1 l2) (Nat.le_refl _)) ((f2.but b3 (by omega)).less hl1)
end Go.Proofs
namespace Go.Proofs
open Go.Abs

variable {H G:AHeap} {v u f:Value} {l m c:List Int} {es fs:List (Int × Int)} {K:Value→AHeap→Prop} {A A':Nat→Prop} {B B':Nat} {ls ms:List (List Int)}

def totL (ls:List (List Int)):Nat:=(ls.map List.length).sum
end Go.Proofs
namespace Go.Proofs
open Go.Abs

variable {H G:AHeap} {v u f:Value} {l m c:List Int} {es fs:List (Int × Int)} {K:Value→AHeap→Prop} {A A':Nat→Prop} {B B':Nat} {ls ms:List (List Int)}

end Go.Proofs
namespace Go.Proofs
open Go.Abs

variable {H G:AHeap} {v u f w:Value} {es fs S:List (Int × Int)} {l:List Int} {K:Value→AHeap→Prop}

theorem push_edge {m0:Nat} {x:Int × Int} (hF:Fresh m0 H v 66 2 (LE es)) (hm:m0≤H.length) (hs:es.length<1000000)
 (k:∀ v' G,Keep m0 H G→Oth v H G→(∀ b,bk v'=some b→H.length≤b)→Fresh m0 G v' 66 2 (LE (es++[x]))→K v' G) :
 newK H [.int .i64 x.1,.int .i64 x.2] 66 (fun b1 H2=>apK T0 66 H2 v (.slice (some ⟨b1,0,none⟩) 1 (1+1)) K):=by
 refine hF.sl.pushN E_edge (by decide) hm (n:=1) (ys:=[.int .i64 x.1,.int .i64 x.2]) rfl rfl (by rw [LE_length];simp;omega) (by simp) fun v' G k1 ot nb f=>k v' G k1 ot nb ?_
 rw [LE_append];exact f
theorem edges_cells (h:Edges H v es):cellsAt H v 2 es.length (LE es):=by
 rcases h with ⟨rfl,rfl⟩|⟨a,c,rfl,h⟩
 ·exact ⟨rfl,none,0,rfl,.inl rfl⟩
 ·refine ⟨LE_length es,some a,c,rfl,?_⟩
  rcases h with rfl|⟨h1,h2⟩
  ·exact .inl rfl
  ·refine .inr ⟨a.block,a.off,by cases a;simp at h1;subst h1;rfl,fun i x hx=>?_⟩
   have hi:=lt_of_get hx
   rw [LE_length] at hi
   obtain ⟨g1,g2⟩:=h2 (i/2) (es.getD (i/2) (0,0)) (by rw [getD_of (by omega)];exact List.getElem?_eq_getElem (by omega))
   obtain ⟨q1,q2⟩:=LE_get es (i/2) (es.getD (i/2) (0,0)) (by rw [getD_of (by omega)];exact List.getElem?_eq_getElem (by omega))
   rcases (by omega:i=i/2*2∨i=i/2*2+1) with e|e
   ·rw [e,q1] at hx
    rw [e];cases hx;exact g1
   ·rw [e,q2] at hx
    rw [e];cases hx;exact g2
theorem app_edges {m0:Nat} (hs:Sl m0 H v 66 2 (LE es)) (hm:m0≤H.length) (h:Edges H u fs) (h0:0<fs.length) (hl:es.length+fs.length≤1000000) (k:∀ v' G,Keep m0 H G→Oth v H G→Fresh m0 G v' 66 2 (LE (es++fs))→K v' G):apK T0 66 H v u K:=by
 refine hs.app E_edge (by decide) hm (edges_cells h) (by rw [LE_length,LE_length];omega) (fun e=>?_) fun v' G k1 ot nb f=>k v' G k1 ot (by rw [LE_append];exact f)
 have:=congrArg List.length e;rw [LE_length,List.length_nil] at this;omega
end Go.Proofs
namespace Go.Proofs
open Go.Abs

variable {H G:AHeap} {v u f w:Value} {es fs S:List (Int × Int)} {l:List Int} {K:Value→AHeap→Prop}

def k4A:List (Int × Int):=[(0,1),(0,2),(0,3),(1,2),(1,3),(2,3)]
end Go.Proofs
namespace Go.Proofs
open Go.Abs

variable {H G Hb:AHeap} {v u f w:Value} {l m:List Int} {es:List (Int × Int)} {K:Value→AHeap→Prop} {bs:Nat} {n:Int}

def EdR (n:Int) (es:List (Int × Int)):Prop:=∀ e∈es,0≤e.1∧e.1<n∧0≤e.2∧e.2<n
structure Gd (n:Int) (es:List (Int × Int)):Prop where
 pos:0<es.length
 len:es.length≤1000
 rng:EdR n es
theorem EdR.made (h:EdR n es):EdR n (srtE (es.map nrmE)):=fun e he=>by
 obtain ⟨a,ha,rfl⟩:=List.mem_map.1 ((srtE_perm _).mem_iff.1 he)
 have:=h a ha
 unfold nrmE
 simp only
 split <;> split <;> omega
theorem Gd.made (h:Gd n es):Gd n (srtE (es.map nrmE)):=⟨by rw [srtE_length,List.length_map];exact h.pos,by rw [srtE_length,List.length_map];exact h.len,h.rng.made⟩
theorem EdR.snoc (h:EdR n es) {a b:Int} (ha:0≤a∧a<n) (hb:0≤b∧b<n):EdR n (es++[(a,b)]):=fun e he=>by
 rcases List.mem_append.1 he with he|he
 ·exact h e he
 ·rw [List.mem_singleton.1 he];exact ⟨ha.1,ha.2,hb.1,hb.2⟩
theorem l01DrawOf_ok (hs:Src Hb bs H) (h2:2≤n) (hn:n≤100) (he:n%2=0) (k:∀ v' es G,Kb bs H G→Src Hb bs G→Fresh H.length G v' 66 2 (LE es)→Gd n es→K (.agg ⟨[.int .i64 n,v']⟩) G) :
 AC Tryz.prog T0 104 [.pointer (some ⟨bs,0,none⟩),.int .i64 n] H K:=by
 have hbs:=hs.lt
 have nilR:EdR n []:=fun e he=>absurd he (by simp)
 apply F104.ac
 unfold F104.B24
 refine newK_f rfl fun H1 l1 n1 o1=>?_
 unfold F104.B23 F104.L10
 refine ⟨fun x0 x1 x4 x5 G=>.pointer (some ⟨bs,0,none⟩)=x0∧n=x1∧H.length=x4∧Kb bs H G∧Src Hb bs G∧Own G H.length 26 [.int .i64 0,.slice none 0 0]∧∃ i:Nat,x5=i∧i≤20,fun _ _ _ x5 _=>20-x5.toNat,⟨rfl,rfl,rfl,.of_le l1,hs.le l1,o1,0,rfl,by omega⟩,?_⟩
 rintro x0 x1 x4 x5 G ⟨rfl,rfl,rfl,kb,s,ob,i,rfl,hi⟩
 have hHG:=kb.len
 have fin:∀ v' es G',Kb bs H G'→Src Hb bs G'→Own G' H.length 26 [.int .i64 0,.slice none 0 0]→Fresh H.length G' v' 66 2 (LE es)→Gd n es→(∀ b,bk v'=some b→b≠H.length)→stK G' H.length 0 [.int .i64 n,v'] (fun H7=>ldI .i64 H7 H.length 0 (fun v8=>ld1 H7 H.length 1 (fun v9=>K (.agg ⟨[.int .i64 v8,v9]⟩) H7))):=by
  intro v' es G' kb' s' ob' f' g' hne
  refine stK_f (new:=[.int .i64 n,v']) ob' (by simp) (mem_iv (fresh_one f')) rfl fun G5 b5 o5=>ldI_own o5 rfl (ld1_own o5 rfl ?_)
  have hsb:Src Hb bs G5:=by
   obtain ⟨h1,h2,cv,l,a,x,h3,h4,h5,h6,h7⟩:=s'
   have hlt:=h1.1
   exact ⟨b5.le h1 (by omega),h2,cv,l,a,x,h3,h4,b5.own h5 (by omega),h6,h7⟩
  refine k v' es G5 ⟨by rw [b5.len];exact kb'.len,fun q o hq ho=>?_⟩ hsb (fresh_oth f' fun b o hb ho=>by rw [b5.same b (hne b hb)];exact ho) g'
  have:=lt_of_get ho
  rw [b5.same q (by omega)];exact kb'.old q o hq ho
 have made:∀ v' es G',Kb bs H G'→Src Hb bs G'→Own G' H.length 26 [.int .i64 0,.slice none 0 0]→Edges G' v' es→Gd n es→AC Tryz.prog T0 158 [.int .i64 n,v'] G' (fun v1 H2=>agg2 v1 (fun v3 v4=>asI .i64 v3 (fun v5=>stK H2 H.length 0 [.int .i64 v5,v4] (fun H7=>ldI .i64 H7 H.length 0 (fun v8=>ld1 H7 H.length 1 (fun v9=>K (.agg ⟨[.int .i64 v8,v9]⟩) H7)))))):=by
  intro v' es G' kb' s' ob' h' g'
  have hlt:=ob'.lt
  refine l01Made_ok h' (by have:=g'.len;omega) fun v2 G2 l2 f2=>agg2_mk (asI_mk ?_)
  exact fin v2 _ G2 (kb'.trans (.of_le l2)) (s'.le l2) (ob'.le l2) (f2.less kb'.len) g'.made fun b hb=>by have:=(f2.bk_lt hb).1;omega
 have hd2:IntKind.i64.wrap (Int.tdiv n 2)=n/2:=by rw [Int.tdiv_eq_ediv_of_nonneg (by omega),wrap_id (by omega) (by omega)]
 unfold F104.B22
 refine pif_cases (fun hb=>?_) fun hb=>?_
 rotate_left
 ·unfold F104.B9
  refine newK_f rfl fun G1 g1 m1 p1=>?_
  have hlt:=ob.lt
  unfold F104.B8 F104.L2
  refine ⟨fun x1 x4 x12 x13 G'=>n=x1∧H.length=x4∧G.le G'∧∃ (j:Nat) (es:List (Int × Int)),x13=j∧(j:Int)≤n∧Fresh G.length G' x12 66 2 (LE es)∧EdR n es∧j≤es.length∧es.length≤2*j,fun _ _ _ x13 _=>(n-x13).toNat,⟨rfl,rfl,g1,0,[],rfl,by omega,.inr ⟨_,0,Nat.le_refl _,rfl,p1,rfl⟩,nilR,by simp,by simp⟩,?_⟩
  rintro x1 x4 x12 x13 G' ⟨rfl,rfl,lG,j,es,rfl,hj,hF,hE,hl1,hl2⟩
  have next:∀ v3 G4 es',G.le G4→Fresh G.length G4 v3 66 2 (LE es')→EdR n es'→j+1≤es'.length→es'.length≤2*(j+1)→(j:Int)<n→F104.B3 K (fun y1 y4 y12 y13 G'=>(n=y1∧H.length=y4∧G.le G'∧∃ (j:Nat) (es:List (Int × Int)),y13=j∧(j:Int)≤n∧Fresh G.length G' y12 66 2 (LE es)∧EdR n es∧j≤es.length∧es.length≤2*j)∧(n-y13).toNat<(n-(j:Int)).toNat) n H.length v3 j G4:=by
   intro v3 G4 es' l4 f4 e4 h3 h4 h5
   unfold F104.B3
   rw [wrap_id (by omega) (by omega)]
   exact ⟨⟨rfl,rfl,l4,j+1,es',by omega,by omega,f4,e4,h3,h4⟩,by omega⟩
  unfold F104.B7
  refine pif_cases (fun hc=>?_) fun hc=>?_
  ·have hlt:=of_decide_eq_true hc
   unfold F104.B6
   rw [wrap_id (by omega) (by omega)]
   have t0:0≤Int.tmod ((j:Int)+1) n:=Int.tmod_nonneg _ (by omega)
   have t1:Int.tmod ((j:Int)+1) n<n:=Int.tmod_lt_of_pos _ (by omega)
   have hE1:=hE.snoc (a:=j) (b:=Int.tmod ((j:Int)+1) n) ⟨by omega,hlt⟩ ⟨t0,t1⟩
   refine pif_t (by simp;omega) (push_edge (x:=((j:Int),Int.tmod ((j:Int)+1) n)) hF lG.1 (by omega) fun v3 G4 k4 _ _ f4=>?_)
   have l4:=k4.le lG (Nat.le_refl _)
   unfold F104.B5
   rw [hd2]
   refine pif_cases (fun hq=>?_) fun hq=>next v3 G4 _ l4 f4 hE1 (by simp;omega) (by simp;omega) hlt
   have hq:=of_decide_eq_true hq
   unfold F104.B4
   rw [hd2,wrap_id (by omega) (by omega)]
   refine push_edge (x:=((j:Int),(j:Int)+n/2)) f4 l4.1 (by simp;omega) fun v5 G6 k6 _ _ f6=>?_
   exact next v5 G6 _ (k6.le l4 (Nat.le_refl _)) f6 (hE1.snoc ⟨by omega,by omega⟩ ⟨by omega,by omega⟩) (by simp;omega) (by simp;omega) hlt
  ·have hge:=of_decide_eq_false hc
   unfold F104.B1
   exact made x12 es G' (kb.trans (.of_le lG)) (s.le lG) (ob.le lG) hF.edges ⟨by omega,by omega,hE⟩
 ·have hi20:=of_decide_eq_true hb
  unfold F104.B21
  rw [wrap_id (by omega) (by omega)]
  refine l01DrawOrder_ok s (by omega) fun v1 D G1 k1 s1 f1 hDl hDr=>newK_f rfl fun G2 l2 n2 o2=>?_
  have ob1:Own G1 H.length 26 [.int .i64 0,.slice none 0 0]:=k1.old _ _ (by omega) ob
  have kb2:=(kb.trans k1).trans (.of_le l2)
  have s2:=s1.le l2
  have hDi:∀ G',G1.le G'→Ints G' v1 D:=fun G' l=>f1.ints.le l
  unfold F104.B20 F104.L14
  refine ⟨fun x0 x1 x4 x5 x6 x7 x8 x9 G'=>.pointer (some ⟨bs,0,none⟩)=x0∧n=x1∧H.length=x4∧(i:Int)=x5∧v1=x6∧G1.le G'∧∃ (j:Nat) (es:List (Int × Int)),x9=2*(j:Int)∧2*(j:Int)≤3*n∧Fresh G1.length G' x7 66 2 (LE es)∧EdR n es∧es.length=j,fun _ _ _ _ _ _ _ x9 _=>(3*n-x9).toNat,⟨rfl,rfl,rfl,rfl,rfl,l2,0,[],rfl,by omega,.inr ⟨_,0,Nat.le_refl _,rfl,o2,rfl⟩,nilR,rfl⟩,?_⟩
  rintro x0 x1 x4 x5 x6 x7 x8 x9 G' ⟨rfl,rfl,rfl,rfl,rfl,lG,j,es,rfl,hj,hF,hE,hel⟩
  have hDG:=hDi G' lG
  unfold F104.B19
  refine hDG.len (pif_cases (fun hc=>?_) fun hc=>?_)
  ·have hlt:2*(j:Int)<3*n:=by have:=of_decide_eq_true hc;omega
   have r1:=hDr (D.getD (2*(j:Int)).toNat 0) (by rw [getD_of (by omega)];exact List.getElem_mem _)
   have r2:=hDr (D.getD (2*(j:Int)+1).toNat 0) (by rw [getD_of (by omega)];exact List.getElem_mem _)
   have q1:IntKind.i64.wrap (Int.tdiv (D.getD (2*(j:Int)).toNat 0) 3)=D.getD (2*(j:Int)).toNat 0/3:=by rw [Int.tdiv_eq_ediv_of_nonneg (by omega),wrap_id (by omega) (by omega)]
   have q2:IntKind.i64.wrap (Int.tdiv (D.getD (2*(j:Int)+1).toNat 0) 3)=D.getD (2*(j:Int)+1).toNat 0/3:=by rw [Int.tdiv_eq_ediv_of_nonneg (by omega),wrap_id (by omega) (by omega)]
   unfold F104.B18
   rw [wrap_id (by omega) (by omega)]
   refine hDG.rd (by omega) (by omega) (hDG.rd (by omega) (by omega) ?_)
   rw [q1,q2]
   unfold F104.B17
   refine push_edge (x:=(D.getD (2*(j:Int)).toNat 0/3,D.getD (2*(j:Int)+1).toNat 0/3)) hF lG.1 (by omega) fun v3 G4 k4 _ _ f4=>?_
   have l4:=k4.le lG (Nat.le_refl _)
   unfold F104.B16
   refine pif_cases (fun _=>?_) fun _=>?_
   all_goals
    unfold F104.B15
    rw [wrap_id (by omega) (by omega)]
    exact ⟨⟨rfl,rfl,rfl,rfl,rfl,l4,j+1,_,by omega,by omega,f4,hE.snoc ⟨by omega,by omega⟩ ⟨by omega,by omega⟩,by simp [hel]⟩,by show (3*n-(2*(j:Int)+2)).toNat<(3*n-2*(j:Int)).toNat;omega⟩
  ·have hge:=of_decide_eq_false hc
   unfold F104.B13
   refine pif_cases (fun hq=>?_) fun hq=>?_
   ·unfold F104.B12
    exact made x7 es G' ((kb.trans k1).trans (.of_le lG)) (s1.le lG) (ob1.le lG) hF.edges ⟨by omega,by omega,hE⟩
   ·unfold F104.B11
    rw [wrap_id (by omega) (by omega)]
    exact ⟨⟨rfl,rfl,rfl,(kb.trans k1).trans (.of_le lG),s1.le lG,ob1.le lG,i+1,by omega,by omega⟩,by show 20-((i:Int)+1).toNat<20-(i:Int).toNat;omega⟩
end Go.Proofs
namespace Go.Proofs
open Go.Abs

variable {H G Hb:AHeap} {v u f w:Value} {l m D:List Int} {es:List (Int × Int)} {K:Value→AHeap→Prop} {bs:Nat} {n:Int}

def renE (D:List Int) (es:List (Int × Int)):List (Int × Int):=es.map fun e=>(D.getD e.1.toNat 0,D.getD e.2.toNat 0)
theorem renE_rng (hD:D.length=n.toNat) (hr:∀ x∈D,0≤x∧x<n) (h:EdR n es):EdR n (renE D es):=fun e he=>by
 obtain ⟨a,ha,rfl⟩:=List.mem_map.1 he
 have h1:=h a ha
 have m1:D.getD a.1.toNat 0∈D:=by rw [getD_of (by omega)];exact List.getElem_mem _
 have m2:D.getD a.2.toNat 0∈D:=by rw [getD_of (by omega)];exact List.getElem_mem _
 have h2:=hr _ m1
 have h3:=hr _ m2
 exact ⟨h2.1,h2.2,h3.1,h3.2⟩
theorem l01Renamed_ok (h:Edges H v es) (hg:Gd n es) (hi:Ints H u D) (hD:D.length=n.toNat) (hr:∀ x∈D,0≤x∧x<n) (k:∀ v' es' G,H.le G→Fresh H.length G v' 66 2 (LE es')→Gd n es'→K (.agg ⟨[.int .i64 n,v']⟩) G) :
 AC Tryz.prog T0 116 [.agg ⟨[.int .i64 n,v]⟩,u] H K:=by
 have hlen:=hg.len
 apply F116.ac
 unfold F116.B8
 refine newK_f (all_iv (edges_one' h)) fun H1 l1 n1 o1=>newK_f rfl fun H2 l2 n2 o2=>?_
 have l02:=AHeap.le_trans l1 l2
 have o12:=o1.le l2
 unfold F116.B7
 refine newK_f rfl fun H3 l3 n3 o3=>?_
 unfold F116.B6 F116.L2
 refine ⟨fun x1 x2 x4 x5 x6 G=>u=x1∧H.length=x2∧H1.length=x4∧H2.le G∧∃ i:Nat,x6=i∧i≤es.length∧Fresh H2.length G x5 66 2 (LE (renE D (es.take i))),fun _ _ _ _ x6 _=>es.length-x6.toNat,⟨rfl,rfl,rfl,l3,0,rfl,by omega,.inr ⟨_,0,Nat.le_refl _,rfl,o3,rfl⟩⟩,?_⟩
 rintro x1 x2 x4 x5 x6 G ⟨rfl,rfl,rfl,lG,i,rfl,hil,hF⟩
 have l0G:=AHeap.le_trans l02 lG
 unfold F116.B5
 refine ld1_own (o12.le lG) rfl ((h.le l0G).len (pif_cases (fun hb=>?_) fun hb=>?_))
 ·have hlt:i<es.length:=by have:=of_decide_eq_true hb;omega
  have hm:es.getD i (0,0)∈es:=by rw [getD_of hlt];exact List.getElem_mem _
  have hrg:=hg.rng _ hm
  obtain ⟨bb,oo,hk,c1,c2⟩:=(h.le l0G).idx (show (0:Int)≤i by omega) (by omega)
  simp only [Int.toNat_natCast] at c1 c2
  unfold F116.B4
  refine ld1_own (o12.le lG) rfl (hk _ (ldI_mk c1 ((hi.le l0G).rd (by omega) (by omega) (ld1_own (o12.le lG) rfl (hk _ (ldI_mk c2 ((hi.le l0G).rd (by omega) (by omega) ?_)))))))
  refine push_edge (x:=(D.getD (es.getD i (0,0)).1.toNat 0,D.getD (es.getD i (0,0)).2.toNat 0)) hF lG.1 (by simp [renE];omega) fun v3 G4 k4 _ _ f4=>?_
  unfold F116.B3
  rw [wrap_id (by omega) (by omega)]
  refine ⟨⟨rfl,rfl,rfl,k4.le lG (Nat.le_refl _),i+1,by omega,by omega,?_⟩,by simp;omega⟩
  have e:renE D (es.take (i+1))=renE D (es.take i)++[(D.getD (es.getD i (0,0)).1.toNat 0,D.getD (es.getD i (0,0)).2.toNat 0)]:=by
   unfold renE
   rw [List.take_succ_eq_append_getElem hlt,List.map_append,← getD_of (d:=(0,0)) hlt];rfl
  rw [e];exact f4
 ·have hie:i=es.length:=by have:=of_decide_eq_false hb;omega
  subst hie
  rw [List.take_length] at hF
  have hG':Gd n (renE D es):=⟨by unfold renE;rw [List.length_map];exact hg.pos,by unfold renE;rw [List.length_map];exact hg.len,renE_rng hD hr hg.rng⟩
  unfold F116.B1
  refine ldI_own (o12.le lG) rfl (l01Made_ok hF.edges (by have:=hG'.len;omega) fun v2 G2 g2 f2=>agg2_mk (asI_mk ?_))
  have l2G:=AHeap.le_trans lG g2
  have hb1:=o2.lt
  refine stK_f (new:=[.int .i64 n,v2]) (o2.le l2G) (by simp) (mem_iv (fresh_one f2)) rfl fun G5 b5 o5=>ldI_own o5 rfl (ld1_own o5 rfl ?_)
  have hGl:=lG.1
  have h0l:=l1.1
  exact k v2 _ G5 (b5.le (AHeap.le_trans l02 l2G) h0l) (((f2.but b5 (by omega)).less (by omega))) hG'.made
end Go.Proofs
namespace Go.Proofs
open Go.Abs

variable {H G Hb:AHeap} {v u f w:Value} {l m D:List Int} {es:List (Int × Int)} {K:Value→AHeap→Prop} {bs:Nat} {n:Int}

theorem l01Cycle_ok {m0 c:Nat} (hF:Fresh m0 H v 66 2 (LE es)) (hm:m0≤H.length) (oc:Own H c 2 (LI D)) (hc:bk v≠some c) (hr:EdR n es) (hD:∀ x∈D,0≤x∧x<n) (hl:es.length+D.length≤1000)
 (k:∀ v' es' G,Keep m0 H G→Fresh m0 G v' 66 2 (LE es')→EdR n es'→es'.length=es.length+D.length→(∀ b,bk v'=some b→bk v=some b∨H.length≤b)→K v' G) :
 AC Tryz.prog T0 167 [v,.slice (some ⟨c,0,none⟩) D.length (D.length+1)] H K:=by
 have hcl:=oc.lt
 apply F167.ac
 unfold F167.B7 F167.B6 F167.L2
 refine ⟨fun x0 x1 x5 G=>.slice (some ⟨c,0,none⟩) D.length (D.length+1)=x1∧Keep m0 H G∧Own G c 2 (LI D)∧(∀ b,bk x0=some b→bk v=some b∨H.length≤b)∧∃ (i:Nat) (es':List (Int × Int)),x5=i∧i≤D.length∧Fresh m0 G x0 66 2 (LE es')∧EdR n es'∧es'.length=es.length+i,fun _ _ x5 _=>D.length-x5.toNat,⟨rfl,⟨Nat.le_refl _,fun _ _ _ h=>h⟩,oc,fun b hb=>.inl hb,0,es,rfl,by omega,hF,hr,rfl⟩,?_⟩
 rintro x0 x1 x5 G ⟨rfl,kp,oG,hbk,i,es',rfl,hi,hFG,hrG,hlG⟩
 have hkl:=kp.len
 have hiG:Ints G (.slice (some ⟨c,0,none⟩) D.length (D.length+1)) D:=own_ints oG
 unfold F167.B5
 refine lenK_of (pif_cases (fun hb=>?_) fun hb=>?_)
 ·have hlt:i<D.length:=by have:=of_decide_eq_true hb;omega
  have t0:0≤Int.tmod ((i:Int)+1) (D.length:Int):=Int.tmod_nonneg _ (by omega)
  have t1:Int.tmod ((i:Int)+1) (D.length:Int)<D.length:=Int.tmod_lt_of_pos _ (by omega)
  have r1:=hD (D.getD (i:Int).toNat 0) (by rw [getD_of (by omega)];exact List.getElem_mem _)
  have t2:(Int.tmod ((i:Int)+1) (D.length:Int)).toNat<D.length:=(Int.toNat_lt t0).2 t1
  have r2:=hD (D.getD (Int.tmod ((i:Int)+1) (D.length:Int)).toNat 0) (by rw [getD_of t2];exact List.getElem_mem _)
  unfold F167.B4
  rw [wrap_id (by omega) (by omega)]
  have d0:((D.length:Nat):Int)≠0:=by omega
  refine hiG.rd (by omega) (by omega) (lenK_of (pif_t (by simpa using d0) (hiG.rd t0 t1 ?_)))
  refine push_edge (x:=(D.getD (i:Int).toNat 0,D.getD (Int.tmod ((i:Int)+1) (D.length:Int)).toNat 0)) hFG (Nat.le_trans hm hkl) (by rw [hlG];exact Nat.lt_of_le_of_lt (show es.length+i≤1000 by omega) (by decide)) fun v3 G4 k4 ot nb f4=>?_
  unfold F167.B3
  rw [wrap_id (by omega) (by omega)]
  refine ⟨⟨rfl,⟨by have:=k4.len;omega,fun b o hb ho=>k4.old b o hb (kp.old b o hb ho)⟩,ot c _ (fun h=>?_) oG,fun b hb=>.inr (by have:=nb b hb;omega),i+1,_,by omega,by omega,f4,hrG.snoc r1 r2,by simp;omega⟩,by simp;omega⟩
  rcases hbk c h with h|h
  ·exact hc h
  ·omega
 ·have hie:i=D.length:=by have:=of_decide_eq_false hb;omega
  subst hie
  unfold F167.B1
  exact k x0 es' G kp hFG hrG hlG hbk
end Go.Proofs
namespace Go.Proofs
open Go.Abs

variable {H G Hb H0:AHeap} {v u f w:Value} {l m D:List Int} {es fs:List (Int × Int)} {K:Value→AHeap→Prop} {bs:Nat} {n:Int}

theorem LI_one:∀ (l:List Int),(LI l).all Value.oneCell'=true
 | []=>rfl
 | x::l=>by show (Value.int .i64 x::LI l).all Value.oneCell'=true;rw [List.all_cons,LI_one l];rfl
theorem LE_one:∀ (l:List (Int × Int)),(LE l).all Value.oneCell'=true
 | []=>rfl
 | x::l=>by rw [LE_cons,List.all_cons,List.all_cons,LE_one l];rfl
theorem push_edges {m0:Nat} (fs:List (Int × Int)) {cs:List Value} {c:Nat} (hF:Fresh m0 H v 66 2 (LE es)) (hm:m0≤H.length) (hc:cs=LE fs) (hn:c=fs.length) (h0:0<fs.length) (hl:es.length+fs.length≤1000)
 (k:∀ v' G,Keep m0 H G→Fresh m0 G v' 66 2 (LE (es++fs))→K v' G) :
 newK H cs 66 (fun b1 H2=>apK T0 66 H2 v (.slice (some ⟨b1,0,none⟩) c (c+1)) K):=by
 subst hc;subst hn
 refine newK_f (LE_one fs) fun H2 l2 n2 o2=>?_
 have hE:Edges H2 (.slice (some ⟨H.length,0,none⟩) fs.length (fs.length+1)) fs:=Fresh.edges (m:=0) (e:=66) (.inr ⟨_,fs.length,Nat.zero_le _,rfl,o2,by rw [LE_length]⟩)
 exact app_edges (hF.sl.le l2) (Nat.le_trans hm l2.1) hE h0 (by omega) fun v' G k1 _ f=>k v' G ((Keep.of_le l2).trans k1) f
theorem EdR.nil:EdR n []:=fun e he=>absurd he (by simp)
theorem EdR.cons {a b:Int} (h1:0≤a∧a<n) (h2:0≤b∧b<n) (h:EdR n es):EdR n ((a,b)::es):=fun e he=>by
 rcases List.mem_cons.1 he with rfl|he
 ·exact ⟨h1.1,h1.2,h2.1,h2.2⟩
 ·exact h e he
theorem EdR.app (h:EdR n es) (g:EdR n fs):EdR n (es++fs):=fun e he=>by
 rcases List.mem_append.1 he with he|he
 ·exact h e he
 ·exact g e he
theorem EdR.up {n':Int} (h:EdR n es) (hn:n≤n'):EdR n' es:=fun e he=>by
 have:=h e he;omega
def NamK (n:Int) (c:Nat) (H:AHeap) (K:Value→AHeap→Prop):Prop:=∀ v es G,H.le G→Fresh H.length G v 66 2 (LE es)→Gd n es→es.length≤c→K (.tuple ⟨[.agg ⟨[.int .i64 n,v]⟩,.bool true]⟩) G
theorem made_tail {c:Nat} (k:NamK n c H0 K) (l0:H0.le H) (o:Own H H0.length 26 [.int .i64 0,.slice none 0 0]) (h:Edges H v es) (hr:EdR n es) (h0:0<es.length) (hl:es.length≤c) (hc:c≤40:=by decide) :
 AC Tryz.prog T0 158 [.int .i64 n,v] H (fun v1 H2=>agg2 v1 (fun v3 v4=>asI .i64 v3 (fun v5=>stK H2 H0.length 0 [.int .i64 v5,v4] (fun H7=>ldI .i64 H7 H0.length 0 (fun v8=>ld1 H7 H0.length 1 (fun v9=>K (.tuple ⟨[.agg ⟨[.int .i64 v8,v9]⟩,.bool true]⟩) H7)))))):=by
 have hlt:=o.lt
 have hg:Gd n es:=⟨h0,by omega,hr⟩
 refine l01Made_ok h (by omega) fun v2 G2 l2 f2=>agg2_mk (asI_mk ?_)
 refine stK_f (new:=[.int .i64 n,v2]) (o.le l2) (by simp) (mem_iv (fresh_one f2)) rfl fun G5 b5 o5=>ldI_own o5 rfl (ld1_own o5 rfl ?_)
 have hll:=l0.1
 exact k v2 _ G5 (b5.le (AHeap.le_trans l0 l2) (Nat.le_refl _)) ((f2.but b5 hlt).less hll) hg.made (by rw [srtE_length,List.length_map];exact hl)
structure NmS (H0 H:AHeap) (v:Value) (es:List (Int × Int)):Prop where
 kp:Keep (H0.length+1) H0 H
 ob:Own H H0.length 26 [.int .i64 0,.slice none 0 0]
 f:Fresh (H0.length+1) H v 66 2 (LE es)
theorem NmS.len (h:NmS H0 H v es):H0.length+1≤H.length:=h.ob.lt
theorem NmS.le0 (h:NmS H0 H v es):H0.le H:=h.kp.le (AHeap.le_refl _) (Nat.le_succ _)
theorem NmS.le (h:NmS H0 H v es) (l:H.le G):NmS H0 G v es:=⟨h.kp.trans (.of_le l),h.ob.le l,h.f.le l⟩
theorem NmS.push (fs:List (Int × Int)) {cs:List Value} {c:Nat} (h:NmS H0 H v es) (hc:cs=LE fs) (hn:c=fs.length) (h0:0<fs.length) (hl:es.length+fs.length≤1000) (k:∀ v' G,NmS H0 G v' (es++fs)→K v' G) :
 newK H cs 66 (fun b1 H2=>apK T0 66 H2 v (.slice (some ⟨b1,0,none⟩) c (c+1)) K):=
 push_edges fs h.f h.len hc hn h0 hl fun v' G k1 f=>k v' G ⟨h.kp.trans k1,k1.own h.ob (Nat.lt_succ_self _),f⟩
theorem NmS.cyc (D:List Int) {cs:List Value} {c:Nat} (h:NmS H0 H v es) (hc:cs=LI D) (hn:c=D.length) (hr:EdR n es) (hD:∀ x∈D,0≤x∧x<n) (hl:es.length+D.length≤1000) (k:∀ v' es' G,NmS H0 G v' es'→EdR n es'→es'.length=es.length+D.length→K v' G) :
 newK H cs 2 (fun b1 H2=>AC Tryz.prog T0 167 [v,.slice (some ⟨b1,0,none⟩) c (c+1)] H2 K):=by
 subst hc;subst hn
 refine newK_f (LI_one D) fun H2 l2 n2 o2=>?_
 have h2:=h.le l2
 exact l01Cycle_ok h2.f h2.len o2 (fun e=>by have:=(h.f.bk_lt e).2;omega) hr hD hl fun v' es' G k1 f r e _=>k v' es' G ⟨h2.kp.trans k1,k1.own h2.ob (Nat.lt_succ_self _),f⟩ r e
theorem NmS.made {c:Nat} (k:NamK n c H0 K) (h:NmS H0 H v es) (hr:EdR n es) (h0:0<es.length) (hl:es.length≤c) (hc:c≤40:=by decide) :
 AC Tryz.prog T0 158 [.int .i64 n,v] H (fun v1 H2=>agg2 v1 (fun v3 v4=>asI .i64 v3 (fun v5=>stK H2 H0.length 0 [.int .i64 v5,v4] (fun H7=>ldI .i64 H7 H0.length 0 (fun v8=>ld1 H7 H0.length 1 (fun v9=>K (.tuple ⟨[.agg ⟨[.int .i64 v8,v9]⟩,.bool true]⟩) H7)))))):=
 made_tail k h.le0 h.ob h.f.edges hr h0 hl hc
theorem nm_theta (k:NamK 2 40 H0 K) (h:NmS H0 H v []):F115.B2 K H0.length H:=by
 unfold F115.B2
 refine newK_f rfl fun H2 l2 n2 o2=>?_
 have h2:=h.le l2
 have hE:Edges H2 (.slice (some ⟨H.length,0,none⟩) 3 (3+1)) [(0,1),(0,1),(0,1)]:=Fresh.edges (m:=0) (e:=66) (.inr ⟨_,3,Nat.zero_le _,rfl,o2,rfl⟩)
 exact made_tail k h2.le0 h2.ob hE (by refine .cons ?_ ?_ (.cons ?_ ?_ (.cons ?_ ?_ .nil)) <;> decide) (by decide) (by decide)
theorem nm_k4 (k:NamK 4 40 H0 K) (h:NmS H0 H v []):F115.B3 K H0.length H:=by
 unfold F115.B3
 refine newK_f rfl fun H2 l2 n2 o2=>?_
 have h2:=h.le l2
 have hE:Edges H2 (.slice (some ⟨H.length,0,none⟩) 6 (6+1)) k4A:=Fresh.edges (m:=0) (e:=66) (.inr ⟨_,6,Nat.zero_le _,rfl,o2,rfl⟩)
 exact made_tail k h2.le0 h2.ob hE (by unfold k4A;refine .cons ?_ ?_ (.cons ?_ ?_ (.cons ?_ ?_ (.cons ?_ ?_ (.cons ?_ ?_ (.cons ?_ ?_ .nil))))) <;> decide) (by decide) (by decide)
theorem nm_k33 (k:NamK 6 40 H0 K) (h:NmS H0 H v []):F115.B9 K H0.length v H:=by
 unfold F115.B9 F115.L5
 refine ⟨fun x2 x4 x5 G=>H0.length=x2∧∃ (i:Nat) (es:List (Int × Int)),x5=i∧i≤3∧NmS H0 G x4 es∧EdR 6 es∧es.length=3*i,fun _ _ x5 _=>3-x5.toNat,⟨rfl,0,[],rfl,by omega,h,.nil,rfl⟩,?_⟩
 rintro x2 x4 x5 G ⟨rfl,i,es,rfl,hi,hS,hE,hl⟩
 unfold F115.B8
 refine pif_cases (fun hb=>?_) fun hb=>?_
 ·have hlt:=of_decide_eq_true hb
  unfold F115.B7
  refine hS.push [((i:Int),3),((i:Int),4),((i:Int),5)] rfl rfl (by simp) (by simp;omega) fun v' G' h'=>?_
  unfold F115.B6
  rw [wrap_id (by omega) (by omega)]
  exact ⟨⟨rfl,i+1,_,by omega,by omega,h',hE.app (by refine .cons ?_ ?_ (.cons ?_ ?_ (.cons ?_ ?_ .nil)) <;> omega),by simp;omega⟩,by simp;omega⟩
 ·have hge:=of_decide_eq_false hb
  unfold F115.B4
  exact hS.made k hE (by omega) (by omega)
theorem nm_prism (k:NamK 6 40 H0 K) (h:NmS H0 H v []):F115.B11 K H0.length v H:=by
 unfold F115.B11
 refine h.cyc (n:=6) [0,1,2] rfl rfl .nil (fun x hx=>by simp at hx;omega) (by decide) fun v1 es1 G1 h1 r1 e1=>h1.cyc (n:=6) [3,4,5] rfl rfl r1 (fun x hx=>by simp at hx;omega) (by rw [e1];decide) fun v2 es2 G2 h2 r2 e2=>?_
 unfold F115.B10
 have hl2:es2.length=6:=by rw [e2,e1];rfl
 refine h2.push [(0,3),(1,4),(2,5)] rfl rfl (by simp) (by simp;omega) fun v3 G3 h3=>?_
 exact h3.made k (n:=6) (r2.app (by refine .cons ?_ ?_ (.cons ?_ ?_ (.cons ?_ ?_ .nil)) <;> decide)) (by simp) (by simp;omega)
theorem cube_bit:∀ i:Fin 8,∀ j:Fin 3,((IntKind.i64.wrap ((BitVec.ofInt 64 (i.val:Int)&&&BitVec.ofInt 64 ((2^j.val:Nat):Int)).toNat:Int):Int)==0)=true→i.val+2^j.val<8:=by decide +kernel
theorem cube_zero:∀ j:Fin 3,((IntKind.i64.wrap ((BitVec.ofInt 64 (((0:Nat):Int))&&&BitVec.ofInt 64 ((2^j.val:Nat):Int)).toNat:Int):Int)==0)=true:=by decide +kernel
theorem nm_cube (k:NamK 8 40 H0 K) (h:NmS H0 H v []):F115.B22 K H0.length v H:=by
 unfold F115.B22 F115.L13
 refine ⟨fun x2 x4 x6 G=>H0.length=x2∧∃ (i:Nat) (es:List (Int × Int)),x6=i∧i≤8∧NmS H0 G x4 es∧EdR 8 es∧es.length≤3*i∧(0<i→0<es.length),fun _ _ x6 _=>8-x6.toNat,⟨rfl,0,[],rfl,by omega,h,.nil,by simp,by simp⟩,?_⟩
 rintro x2 x4 x6 G ⟨rfl,i,es,rfl,hi,hS,hE,hl,hp⟩
 unfold F115.B21
 refine pif_cases (fun hb=>?_) fun hb=>?_
 ·have hlt:=of_decide_eq_true hb
  unfold F115.B20 F115.L15
  refine ⟨fun x2 x4 x6 x7 G=>H0.length=x2∧(i:Int)=x6∧∃ (j:Nat) (es:List (Int × Int)),x7=((2^j:Nat):Int)∧j≤3∧NmS H0 G x4 es∧EdR 8 es∧es.length≤3*i+j∧(0<i∨0<j→0<es.length),fun _ _ _ x7 _=>8-x7.toNat,⟨rfl,rfl,0,es,rfl,by omega,hS,hE,by omega,fun h=>hp (by omega)⟩,?_⟩
  rintro x2 x4 x6 x7 G ⟨rfl,rfl,j,es,rfl,hj,hS,hE,hl,hp⟩
  unfold F115.B19
  have p3:j=0∨j=1∨j=2∨j=3:=by omega
  refine pif_cases (fun hc=>?_) fun hc=>?_
  ·have hj3:j<3:=by
    have hc:=of_decide_eq_true hc
    rcases p3 with rfl|rfl|rfl|rfl <;> first|omega|(exact absurd hc (by decide))
   have h2:2^(j+1)=2*2^j:=by rw [Nat.pow_succ,Nat.mul_comm]
   have h4:2^j≤4∧1≤2^j:=by
    have:j=0∨j=1∨j=2:=by omega
    rcases this with rfl|rfl|rfl <;> decide
   unfold F115.B18
   refine pif_cases (fun hd=>?_) fun hd=>?_
   ·have hlt8:=cube_bit ⟨i,by omega⟩ ⟨j,hj3⟩ hd
    simp only at hlt8
    unfold F115.B17
    rw [wrap_id (by omega) (by omega)]
    refine hS.push [((i:Int),(i:Int)+((2^j:Nat):Int))] rfl rfl (by simp) (by simp;omega) fun v' G' h'=>?_
    unfold F115.B16
    rw [wrap_id (by omega) (by omega)]
    exact ⟨⟨rfl,rfl,j+1,_,by rw [h2];omega,by omega,h',hE.app (.cons (by omega) (by omega) .nil),by simp;omega,fun _=>by simp⟩,by show 8-(2*((2^j:Nat):Int)).toNat<8-(((2^j:Nat):Int)).toNat;generalize 2^j=q at h4 ⊢;omega⟩
   ·unfold F115.B16
    rw [wrap_id (by omega) (by omega)]
    refine ⟨⟨rfl,rfl,j+1,es,by rw [h2];omega,by omega,hS,hE,by omega,fun _=>?_⟩,by show 8-(2*((2^j:Nat):Int)).toNat<8-(((2^j:Nat):Int)).toNat;generalize 2^j=q at h4 ⊢;omega⟩
    by_cases h0:i=0
    ·subst h0
     have hz:=cube_zero ⟨j,hj3⟩
     rw [hd] at hz;cases hz
    ·exact hp (by omega)
  ·have hj3:j=3:=by
    have hc:=of_decide_eq_false hc
    rcases p3 with rfl|rfl|rfl|rfl <;> first|rfl|(exact absurd (by decide) hc)
   subst hj3
   unfold F115.B14
   rw [wrap_id (by omega) (by omega)]
   exact ⟨⟨rfl,i+1,es,by omega,by omega,hS,hE,by omega,fun _=>hp (.inr (by decide))⟩,by simp;omega⟩
 ·have hge:=of_decide_eq_false hb
  unfold F115.B12
  exact hS.made k hE (hp (by omega)) (by omega)
theorem nm_petersen (k:NamK 10 15 H0 K) (h:NmS H0 H v []):F115.B28 K H0.length v H:=by
 unfold F115.B28 F115.L24
 refine ⟨fun x2 x4 x8 G=>H0.length=x2∧∃ (i:Nat) (es:List (Int × Int)),x8=i∧i≤5∧NmS H0 G x4 es∧EdR 10 es∧es.length=3*i,fun _ _ x8 _=>5-x8.toNat,⟨rfl,0,[],rfl,by omega,h,.nil,rfl⟩,?_⟩
 rintro x2 x4 x8 G ⟨rfl,i,es,rfl,hi,hS,hE,hl⟩
 unfold F115.B27
 refine pif_cases (fun hb=>?_) fun hb=>?_
 ·have hlt:=of_decide_eq_true hb
  unfold F115.B26
  rw [wrap_id (x:=(i:Int)+1) (by omega) (by omega),wrap_id (x:=(i:Int)+5) (by omega) (by omega),wrap_id (x:=(i:Int)+2) (by omega) (by omega)]
  have t0:0≤Int.tmod ((i:Int)+1) 5:=Int.tmod_nonneg _ (by omega)
  have t1:Int.tmod ((i:Int)+1) 5<5:=Int.tmod_lt_of_pos _ (by omega)
  have s0:0≤Int.tmod ((i:Int)+2) 5:=Int.tmod_nonneg _ (by omega)
  have s1:Int.tmod ((i:Int)+2) 5<5:=Int.tmod_lt_of_pos _ (by omega)
  obtain ⟨a,ha⟩:∃ a,a=Int.tmod ((i:Int)+1) 5:=⟨_,rfl⟩
  obtain ⟨b,hb⟩:∃ b,b=Int.tmod ((i:Int)+2) 5:=⟨_,rfl⟩
  rw [← ha] at t0 t1 ⊢
  rw [← hb] at s0 s1 ⊢
  rw [wrap_id (x:=b+5) (by omega) (by omega)]
  refine hS.push [((i:Int),a),((i:Int),(i:Int)+5),((i:Int)+5,b+5)] rfl rfl (by simp) (by simp;omega) fun v' G' h'=>?_
  unfold F115.B25
  rw [wrap_id (by omega) (by omega)]
  exact ⟨⟨rfl,i+1,_,by omega,by omega,h',hE.app (by refine .cons ?_ ?_ (.cons ?_ ?_ (.cons ?_ ?_ .nil)) <;> omega),by simp;omega⟩,by simp;omega⟩
 ·have hge:=of_decide_eq_false hb
  unfold F115.B23
  exact hS.made k hE (by omega) (by omega)
theorem nm_flower (k:NamK 20 40 H0 K) (h:NmS H0 H v []):F115.B44 K H0.length v H:=by
 unfold F115.B44 F115.L40
 refine ⟨fun x2 x4 x12 G=>H0.length=x2∧∃ (i:Nat) (es:List (Int × Int)),x12=i∧i≤5∧NmS H0 G x4 es∧EdR 20 es∧es.length=3*i,fun _ _ x12 _=>5-x12.toNat,⟨rfl,0,[],rfl,by omega,h,.nil,rfl⟩,?_⟩
 rintro x2 x4 x12 G ⟨rfl,i,es,rfl,hi,hS,hE,hl⟩
 unfold F115.B43
 refine pif_cases (fun hb=>?_) fun hb=>?_
 ·have hlt:=of_decide_eq_true hb
  unfold F115.B42
  rw [wrap_id (x:=(i:Int)+5) (by omega) (by omega),wrap_id (x:=(i:Int)+10) (by omega) (by omega),wrap_id (x:=(i:Int)+15) (by omega) (by omega)]
  refine hS.push [((i:Int),(i:Int)+5),((i:Int),(i:Int)+10),((i:Int),(i:Int)+15)] rfl rfl (by simp) (by simp;omega) fun v' G' h'=>?_
  unfold F115.B41
  rw [wrap_id (by omega) (by omega)]
  exact ⟨⟨rfl,i+1,_,by omega,by omega,h',hE.app (by refine .cons ?_ ?_ (.cons ?_ ?_ (.cons ?_ ?_ .nil)) <;> omega),by simp;omega⟩,by simp;omega⟩
 ·have hge:=of_decide_eq_false hb
  unfold F115.B39
  refine hS.cyc (n:=20) [5,6,7,8,9] rfl rfl hE (fun x hx=>by simp at hx;omega) (by simp;omega) fun v1 es1 G1 h1 r1 e1=>?_
  unfold F115.B38
  have e1:es1.length=es.length+5:=e1
  refine h1.cyc (n:=20) [10,11,12,13,14,15,16,17,18,19] rfl rfl r1 (fun x hx=>by simp at hx;omega) (by simp;omega) fun v2 es2 G2 h2 r2 e2=>?_
  have e2:es2.length=es1.length+10:=e2
  exact h2.made k r2 (by omega) (by omega)
theorem nm_bridge (k:NamK 10 40 H0 K) (h:NmS H0 H v []):F115.B50 K H0.length v H:=by
 unfold F115.B50 F115.L46
 refine ⟨fun x2 x4 x13 G=>H0.length=x2∧∃ (i:Nat) (es:List (Int × Int)),x13=5*(i:Int)∧i≤2∧NmS H0 G x4 es∧EdR 10 es∧es.length=7*i,fun _ _ x13 _=>10-x13.toNat,⟨rfl,0,[],rfl,by omega,h,.nil,rfl⟩,?_⟩
 rintro x2 x4 x13 G ⟨rfl,i,es,rfl,hi,hS,hE,hl⟩
 unfold F115.B49
 refine pif_cases (fun hb=>?_) fun hb=>?_
 ·have hlt:=of_decide_eq_true hb
  unfold F115.B48
  obtain ⟨x,hx⟩:∃ x,x=5*(i:Int):=⟨_,rfl⟩
  rw [← hx]
  rw [wrap_id (x:=x+1) (by omega) (by omega),wrap_id (x:=x+2) (by omega) (by omega),wrap_id (x:=x+3) (by omega) (by omega),wrap_id (x:=x+4) (by omega) (by omega)]
  refine hS.push [(x,x+2),(x,x+3),(x+1,x+2),(x+1,x+3),(x+2,x+3),(x,x+4),(x+1,x+4)] rfl rfl (by simp) (by simp;omega) fun v' G' h'=>?_
  unfold F115.B47
  rw [wrap_id (by omega) (by omega)]
  exact ⟨⟨rfl,i+1,_,by omega,by omega,h',hE.app (by refine .cons ?_ ?_ (.cons ?_ ?_ (.cons ?_ ?_ (.cons ?_ ?_ (.cons ?_ ?_ (.cons ?_ ?_ (.cons ?_ ?_ .nil)))))) <;> omega),by simp;omega⟩,by show 10-(x+5).toNat<10-x.toNat;omega⟩
 ·have hge:=of_decide_eq_false hb
  unfold F115.B45
  refine hS.push [(4,9)] rfl rfl (by simp) (by simp;omega) fun v' G' h'=>?_
  exact h'.made k (n:=10) (hE.app (.cons (by decide) (by decide) .nil)) (by simp) (by simp;omega)
theorem named_start {nm:ByteArray} (h:∀ H1 v,NmS H H1 v []→F115.B60 K nm H.length v H1):AC Tryz.prog T0 115 [.string nm] H K:=by
 apply F115.ac
 unfold F115.B62
 refine newK_f rfl fun H1 l1 n1 o1=>?_
 unfold F115.B61
 refine newK_f rfl fun H2 l2 n2 o2=>?_
 exact h H2 _ ⟨.of_le (AHeap.le_trans l1 l2),o1.le l2,.inr ⟨_,0,by omega,rfl,o2,rfl⟩⟩
theorem named_petersen (k:NamK 10 15 H K):AC Tryz.prog T0 115 [.string ⟨#[112,101,116,101,114,115,101,110]⟩] H K:=by
 refine named_start fun H1 v h=>?_
 unfold F115.B60 F115.B59
 refine pif_f (by decide +kernel) ?_
 unfold F115.B58
 refine pif_f (by decide +kernel) ?_
 unfold F115.B57
 refine pif_f (by decide +kernel) ?_
 unfold F115.B56
 refine pif_f (by decide +kernel) ?_
 unfold F115.B55
 refine pif_f (by decide +kernel) ?_
 unfold F115.B54
 exact pif_t (by decide +kernel) (nm_petersen k h)
theorem nm_tietze (k:NamK 12 40 H0 K) (h:NmS H0 H v []):F115.B37 K H0.length v H:=by
 unfold F115.B37
 refine named_petersen fun v0 es0 G0 l0 f0 g0 c0=>tup2_mk (agg2_mk (asI_mk (asB_mk (newK_f rfl fun H2 l2 n2 o2=>stK_f (new:=[.int .i64 10,v0]) o2 (by simp) (mem_iv (fresh_one f0)) rfl fun H3 b3 o3=>?_))))
 have l3:G0.le H3:=b3.le l2 (Nat.le_refl _)
 have h3:=h.le (AHeap.le_trans l0 l3)
 have f3:=f0.le l3
 have hl0:=l0.1
 unfold F115.B36 F115.L31
 refine ⟨fun x2 x4 x9 x11 G=>H0.length=x2∧G0.length=x9∧∃ (i:Nat) (es:List (Int × Int)),x11=i∧i≤es0.length∧NmS H0 G x4 es∧EdR 12 es∧es.length≤i∧Own G G0.length 26 [.int .i64 10,v0]∧Fresh H.length G v0 66 2 (LE es0)∧∀ b,bk x4=some b→b≠G0.length∧bk v0≠some b,fun _ _ _ x11 _=>es0.length-x11.toNat,⟨rfl,rfl,0,[],rfl,by omega,h3,.nil,by simp,o3,f3,fun b hb=>?_⟩,?_⟩
 ·have h4:=(h.f.bk_lt hb).2
  exact ⟨by omega,fun e=>by have:=(f0.bk_lt e).1;omega⟩
 rintro x2 x4 x9 x11 G ⟨rfl,rfl,i,es,rfl,hi,hS,hE,hl,oG,fG,hbk⟩
 have eG:=fG.edges
 unfold F115.B35
 refine ld1_own oG rfl (eG.len (pif_cases (fun hb=>?_) fun hb=>?_))
 ·have hlt:i<es0.length:=by have:=of_decide_eq_true hb;omega
  have hm:es0.getD i (0,0)∈es0:=by rw [getD_of hlt];exact List.getElem_mem _
  have hr:=g0.rng _ hm
  have hr12:EdR 12 (es++[es0.getD i (0,0)]):=fun e he=>by
   rcases List.mem_append.1 he with he|he
   ·exact hE e he
   ·rw [List.mem_singleton.1 he];omega
  obtain ⟨bb,oo,hk,q1,q2⟩:=eG.idx (show (0:Int)≤i by omega) (by omega)
  simp only [Int.toNat_natCast] at q1 q2
  unfold F115.B34
  refine ld1_own oG rfl (hk _ (ldI_mk q1 (pif_cases (fun hc=>?_) fun hc=>?_)))
  ·unfold F115.B33
   refine ld1_own oG rfl (hk _ (ldI_mk q1 (ldI_mk q2 ?_)))
   refine push_edge (x:=es0.getD i (0,0)) hS.f hS.len (by omega) fun v' G' k1 ot nb f'=>?_
   unfold F115.B32
   rw [wrap_id (by omega) (by omega)]
   refine ⟨⟨rfl,rfl,i+1,_,by omega,by omega,⟨hS.kp.trans k1,k1.own hS.ob (Nat.lt_succ_self _),f'⟩,hr12,by simp;omega,ot _ _ (fun e=>(hbk _ e).1 rfl) oG,fresh_oth fG fun b o hb ho=>ot b o (fun e=>(hbk b e).2 hb) ho,fun b hb=>?_⟩,by simp;omega⟩
   have h4:=nb b hb
   have h5:=oG.lt
   exact ⟨by omega,fun e=>by have:=(fG.bk_lt e).2;omega⟩
  ·unfold F115.B32
   rw [wrap_id (by omega) (by omega)]
   exact ⟨⟨rfl,rfl,i+1,es,by omega,by omega,hS,hE,by omega,oG,fG,hbk⟩,by simp;omega⟩
 ·unfold F115.B30
  refine hS.cyc (n:=12) [0,10,11] rfl rfl hE (fun x hx=>by simp at hx;omega) (by simp;omega) fun v1 es1 G1 h1 r1 e1=>?_
  have e1:es1.length=es.length+3:=e1
  unfold F115.B29
  refine h1.push [(0,1),(10,4),(11,5)] rfl rfl (by simp) (by simp;omega) fun v2 G2 h2=>?_
  exact h2.made k (n:=12) (r1.app (by refine .cons ?_ ?_ (.cons ?_ ?_ (.cons ?_ ?_ .nil)) <;> decide)) (by simp) (by simp;omega)
def nameL:List ByteArray:=[⟨#[116,104,101,116,97]⟩,⟨#[107,52]⟩,⟨#[107,51,51]⟩,⟨#[112,114,105,115,109]⟩,⟨#[99,117,98,101]⟩,⟨#[112,101,116,101,114,115,101,110]⟩,⟨#[116,105,101,116,122,101]⟩,⟨#[102,108,111,119,101,114,53]⟩,⟨#[98,114,105,100,103,101]⟩]
theorem named_tietze (k:NamK 12 40 H K):AC Tryz.prog T0 115 [.string ⟨#[116,105,101,116,122,101]⟩] H K:=by
 refine named_start fun H1 v h=>?_
 unfold F115.B60 F115.B59
 refine pif_f (by decide +kernel) ?_
 unfold F115.B58
 refine pif_f (by decide +kernel) ?_
 unfold F115.B57
 refine pif_f (by decide +kernel) ?_
 unfold F115.B56
 refine pif_f (by decide +kernel) ?_
 unfold F115.B55
 refine pif_f (by decide +kernel) ?_
 unfold F115.B54
 refine pif_f (by decide +kernel) ?_
 unfold F115.B53
 exact pif_t (by decide +kernel) (nm_tietze k h)
theorem l01Named_ok {nm:ByteArray} (hn:nm∈nameL) (k:∀ n,2≤n→n≤20→NamK n 40 H K):AC Tryz.prog T0 115 [.string nm] H K:=by
 unfold nameL at hn
 simp only [List.mem_cons,List.not_mem_nil,or_false] at hn
 rcases hn with rfl|rfl|rfl|rfl|rfl|rfl|rfl|rfl|rfl
 ·refine named_start fun H1 v h=>?_
  unfold F115.B60 F115.B59
  exact pif_t (by decide +kernel) (nm_theta (k 2 (by decide) (by decide)) h)
 ·refine named_start fun H1 v h=>?_
  unfold F115.B60 F115.B59
  refine pif_f (by decide +kernel) ?_
  unfold F115.B58
  exact pif_t (by decide +kernel) (nm_k4 (k 4 (by decide) (by decide)) h)
 ·refine named_start fun H1 v h=>?_
  unfold F115.B60 F115.B59
  refine pif_f (by decide +kernel) ?_
  unfold F115.B58
  refine pif_f (by decide +kernel) ?_
  unfold F115.B57
  exact pif_t (by decide +kernel) (nm_k33 (k 6 (by decide) (by decide)) h)
 ·refine named_start fun H1 v h=>?_
  unfold F115.B60 F115.B59
  refine pif_f (by decide +kernel) ?_
  unfold F115.B58
  refine pif_f (by decide +kernel) ?_
  unfold F115.B57
  refine pif_f (by decide +kernel) ?_
  unfold F115.B56
  exact pif_t (by decide +kernel) (nm_prism (k 6 (by decide) (by decide)) h)
 ·refine named_start fun H1 v h=>?_
  unfold F115.B60 F115.B59
  refine pif_f (by decide +kernel) ?_
  unfold F115.B58
  refine pif_f (by decide +kernel) ?_
  unfold F115.B57
  refine pif_f (by decide +kernel) ?_
  unfold F115.B56
  refine pif_f (by decide +kernel) ?_
  unfold F115.B55
  exact pif_t (by decide +kernel) (nm_cube (k 8 (by decide) (by decide)) h)
 ·exact named_petersen fun v es G l f g c=>k 10 (by decide) (by decide) v es G l f g (by omega)
 ·exact named_tietze (k 12 (by decide) (by decide))
 ·refine named_start fun H1 v h=>?_
  unfold F115.B60 F115.B59
  refine pif_f (by decide +kernel) ?_
  unfold F115.B58
  refine pif_f (by decide +kernel) ?_
  unfold F115.B57
  refine pif_f (by decide +kernel) ?_
  unfold F115.B56
  refine pif_f (by decide +kernel) ?_
  unfold F115.B55
  refine pif_f (by decide +kernel) ?_
  unfold F115.B54
  refine pif_f (by decide +kernel) ?_
  unfold F115.B53
  refine pif_f (by decide +kernel) ?_
  unfold F115.B52
  exact pif_t (by decide +kernel) (nm_flower (k 20 (by decide) (by decide)) h)
 ·refine named_start fun H1 v h=>?_
  unfold F115.B60 F115.B59
  refine pif_f (by decide +kernel) ?_
  unfold F115.B58
  refine pif_f (by decide +kernel) ?_
  unfold F115.B57
  refine pif_f (by decide +kernel) ?_
  unfold F115.B56
  refine pif_f (by decide +kernel) ?_
  unfold F115.B55
  refine pif_f (by decide +kernel) ?_
  unfold F115.B54
  refine pif_f (by decide +kernel) ?_
  unfold F115.B53
  refine pif_f (by decide +kernel) ?_
  unfold F115.B52
  refine pif_f (by decide +kernel) ?_
  unfold F115.B51
  exact pif_t (by decide +kernel) (nm_bridge (k 10 (by decide) (by decide)) h)
end Go.Proofs
namespace Go.Proofs
open Go.Abs

variable {H G G' Hb H0:AHeap} {v u f w:Value} {l m D:List Int} {es fs:List (Int × Int)} {K:Value→AHeap→Prop} {bs:Nat} {n:Int}

theorem sl_edges {m0:Nat} {t:TypeId} (h:Sl m0 H v t 2 (LE es)):Edges H v es:=by
 rcases h with ⟨h1,h2⟩|⟨b,n,pre,post,h1,rfl,h3,h4⟩
 ·have:es=[]:=by
   cases es with
   | nil=>rfl
   | cons x l=>rw [LE_cons] at h1;cases h1
  subst this
  rcases h2 with rfl|⟨a,rfl⟩
  ·exact .inl ⟨rfl,rfl⟩
  ·exact .inr ⟨a,0,rfl,.inl rfl⟩
 ·have hn:n=es.length:=by rw [LE_length] at h4;omega
  subst hn
  refine .inr ⟨_,_,rfl,.inr ⟨rfl,fun i x hx=>?_⟩⟩
  have hi:i<es.length:=lt_of_get hx
  have hg:=LE_get es i x hx
  have key:∀ j,j<(LE es).length→H.cell b (pre.length+j)=(LE es)[j]?:=fun j hj=>by
   rw [h3.cell,List.append_assoc,List.getElem?_append_right (Nat.le_add_right _ _),Nat.add_sub_cancel_left,List.getElem?_append_left hj]
  have hl:=LE_length es
  refine ⟨?_,?_⟩
  ·rw [key _ (by omega)];exact hg.1
  ·rw [Nat.add_assoc,key _ (by omega)];exact hg.2
theorem Src.but {x:Nat} (h:Src Hb bs G) (b:But x G G') (hx:bs<x):Src Hb bs G':=by
 obtain ⟨h1,h2,cv,l,a,y,h3,h4,h5,h6,h7⟩:=h
 exact ⟨b.le h1 (by omega),h2,cv,l,a,y,h3,h4,b.own h5 (by omega),h6,h7⟩
theorem Kb.but {x:Nat} (h:Kb bs H G) (b:But x G G') (hx:H.length≤x):Kb bs H G':=⟨by rw [b.len];exact h.len,fun q o hq ho=>by
 have:=lt_of_get ho
 rw [b.same q (by omega)];exact h.old q o hq ho⟩
theorem Kb.own {b:Nat} {t:TypeId} {cs:List Value} (h:Kb bs H G) (o:Own H b t cs) (hb:b≠bs):Own G b t cs:=h.old b _ hb o
theorem fresh_kb {m0:Nat} {t:TypeId} {z:Nat} {cs:List Value} (h:Fresh m0 H v t z cs) (k:Kb bs H G) (hm:bs<m0):Fresh m0 G v t z cs:=fresh_oth h fun b o hb ho=>k.old b o (by have:=(h.bk_lt hb).1;omega) ho
theorem draw_tail {x2:Nat} (s:Src Hb bs G) (kb:Kb bs H G) (hbs:bs<x2) (hx:H.length≤x2) (ob:Own G x2 26 [.int .i64 0,.slice none 0 0]) (h1:v.oneCell'=true) (k:∀ G',But x2 G G'→Kb bs H G'→Src Hb bs G'→K (.agg ⟨[.int .i64 n,v]⟩) G') :
 stK G x2 0 [.int .i64 n,v] (fun H7=>ldI .i64 H7 x2 0 (fun v8=>ld1 H7 x2 1 (fun v9=>K (.agg ⟨[.int .i64 v8,v9]⟩) H7))):=by
 refine stK_f (new:=[.int .i64 n,v]) ob (by simp) (mem_iv h1) rfl fun G5 b5 o5=>ldI_own o5 rfl (ld1_own o5 rfl ?_)
 exact k G5 b5 (kb.but b5 hx) (s.but b5 hbs)
structure Gd2 (n:Int) (es:List (Int × Int)):Prop where
 pos:0<es.length
 len:es.length≤2000
 rng:EdR n es
 lo:2≤n
 hi:n≤200
theorem name_get {i c:Nat} (h:i<c) (hc:c≤9):∃ nm∈nameL,((nameL.take c).map Value.string)[i]?=some (.string nm):=by
 have hi:i<nameL.length:=by have:nameL.length=9:=rfl;omega
 refine ⟨nameL[i],List.getElem_mem hi,?_⟩
 rw [List.getElem?_map,List.getElem?_take_of_lt h,List.getElem?_eq_getElem hi];rfl
theorem l01Small_ok (hs:Src Hb bs H) (k:∀ v' n es G,Kb bs H G→Src Hb bs G→Fresh H.length G v' 66 2 (LE es)→Gd n es→2≤n→n≤20→K (.agg ⟨[.int .i64 n,v']⟩) G) :
 AC Tryz.prog T0 65 [.pointer (some ⟨bs,0,none⟩)] H K:=by
 have hbs:=hs.lt
 apply F65.ac
 unfold F65.B6
 refine newK_f rfl fun H1 l1 n1 o1=>?_
 unfold F65.B5
 refine l01Next_ok (hs.le l1) fun r G1 k1 s1 r0 r1 _=>asI_mk (pif_cases (fun hb=>?_) fun hb=>?_)
 ·unfold F65.B4
  have kb1:Kb bs H G1:=(Kb.of_le l1).trans k1
  have ob1:=k1.own o1 (by omega)
  refine newK_f rfl fun G2 l2 n2 o2=>?_
  have kb2:=kb1.trans (.of_le l2)
  have hG1:=kb1.len
  unfold F65.B3
  refine lenK_of (l01Next_ok (s1.le l2) fun r' G3 k3 s3 r0' r1' _=>asI_mk ?_)
  have hr:=r1' (by decide)
  obtain ⟨nm,hnm,hget⟩:=name_get (i:=r'.toNat) (c:=6) (by omega) (by decide)
  have o3:=k3.own o2 (by omega)
  have kb3:=kb2.trans k3
  have hG3:=kb3.len
  have ob3:=k3.own (ob1.le l2) (by omega)
  refine own_idx r0' hr (ld1_own o3 hget (asS_mk (l01Named_ok hnm fun n a0 a1 v0 es0 G4 l4 f4 g4 c4=>tup2_mk (agg2_mk (asI_mk (asB_mk (newK_f rfl fun G5 l5 n5 o5=>stK_f (new:=[.int .i64 n,v0]) o5 (by simp) (mem_iv (fresh_one f4)) rfl fun G6 b6 o6=>?_)))))))
  have l6:G4.le G6:=b6.le l5 (Nat.le_refl _)
  have l36:=AHeap.le_trans l4 l6
  have f6:=f4.le l6
  have s6:=s3.le l36
  have ob6:=ob3.le l36
  have kb6:=kb3.trans (.of_le l36)
  have hG6:=kb6.len
  have hl4:=l4.1
  unfold F65.B2
  refine ldI_own o6 rfl (ld1_own o6 rfl (ldI_own o6 rfl (l01DrawOrder_ok s6 (by omega) fun w D G7 k7 s7 f7 hDl hDr=>?_)))
  have o7:=k7.own o6 (by omega)
  have ob7:=k7.own ob6 (by omega)
  have kb7:=kb6.trans k7
  have f67:=fresh_kb f6 k7 (by omega)
  refine ⟨ldI_own o7 rfl (ld1_own o7 rfl ⟨rfl,rfl⟩),?_⟩
  refine l01Renamed_ok f67.edges g4 f7.ints hDl hDr fun v' es' G8 l8 f8 g8=>agg2_mk (asI_mk (draw_tail (s7.le l8) (kb7.trans (.of_le l8)) hbs (Nat.le_refl _) (ob7.le l8) (fresh_one f8) fun G9 b9 kb9 s9=>?_))
  have hG7:=ob7.lt
  exact k v' n es' G9 kb9 s9 (f8.but b9 (by omega) |>.less (by omega)) g8 a0 a1
 ·unfold F65.B1
  have kb1:Kb bs H G1:=(Kb.of_le l1).trans k1
  have ob1:=k1.own o1 (by omega)
  have hG1:=k1.len
  refine newK_f rfl fun G2 l2 n2 o2=>?_
  refine l01Pick_ok (l:=[2,4,4,6,6,8,8,10]) (s1.le l2) (own_ints (l:=[2,4,4,6,6,8,8,10]) o2) (by decide) (by decide) (fun x hx=>by simp at hx;omega) (fun G3 k3=>own_ints (l:=[2,4,4,6,6,8,8,10]) (k3.own o2 (by omega))) fun r' G3 k3 s3 hr=>asI_mk ?_
  have hr:2≤r'∧r'≤10∧r'%2=0:=by simp at hr;omega
  have kb3:=(kb1.trans (.of_le l2)).trans k3
  have ob3:=k3.own (ob1.le l2) (by omega)
  have hG3:=k3.len
  have hG2:=l2.1
  refine l01DrawOf_ok s3 hr.1 (by omega) hr.2.2 fun v' es' G4 k4 s4 f4 g4=>agg2_mk (asI_mk (draw_tail s4 (kb3.trans k4) hbs (Nat.le_refl _) (k4.own ob3 (by omega)) (fresh_one f4) fun G9 b9 kb9 s9=>?_))
  exact k v' r' es' G9 kb9 s9 (f4.but b9 (by omega) |>.less (by omega)) g4 hr.1 (by omega)
theorem l01Beside_ok {n2:Int} (h:Edges H v es) (g:Edges H w fs) (hg:Gd n es) (hf:Gd n2 fs) (a0:2≤n) (a1:n≤100) (b0:2≤n2) (b1:n2≤100) (k:∀ v' es' G,H.le G→Fresh H.length G v' 66 2 (LE es')→Gd2 (n+n2) es'→K (.agg ⟨[.int .i64 (n+n2),v']⟩) G) :
 AC Tryz.prog T0 118 [.agg ⟨[.int .i64 n,v]⟩,.agg ⟨[.int .i64 n2,w]⟩] H K:=by
 have gl:=hg.len;have fl:=hf.len;have gp:=hg.pos
 apply F118.ac
 unfold F118.B8
 refine newK_f (all_iv (edges_one' h)) fun H1 l1 n1 o1=>newK_f (all_iv (edges_one' g)) fun H2 l2 n2' o2=>newK_f rfl fun H3 l3 n3 o3=>?_
 have o13:=(o1.le l2).le l3
 have o23:=o2.le l3
 have l03:=AHeap.le_trans l1 (AHeap.le_trans l2 l3)
 have hl03:=l03.1
 unfold F118.B7
 refine newK_f rfl fun H4 l4 n4 o4=>ld1_own (o13.le l4) rfl ?_
 have l04:=AHeap.le_trans l03 l4
 refine app_edges (m0:=H3.length) (es:=[]) (Fresh.sl (.inr ⟨_,0,Nat.le_refl _,rfl,o4,rfl⟩)) l4.1 (h.le l04) gp (by simp;omega) fun v5 H5 k5 _ f5=>?_
 have kp5:=(Keep.of_le l4).trans k5
 rw [List.nil_append] at f5
 unfold F118.B6 F118.L2
 refine ⟨fun x2 x3 x4 x5 x6 G=>H.length=x2∧H1.length=x3∧H2.length=x4∧Keep H3.length H3 G∧∃ (i:Nat) (es':List (Int × Int)),x6=i∧i≤fs.length∧Fresh H3.length G x5 66 2 (LE es')∧EdR (n+n2) es'∧es'.length=es.length+i,fun _ _ _ _ x6 _=>fs.length-x6.toNat,⟨rfl,rfl,rfl,kp5,0,es,rfl,by omega,f5,hg.rng.up (by omega),rfl⟩,?_⟩
 rintro x2 x3 x4 x5 x6 G ⟨rfl,rfl,rfl,kp,i,es',rfl,hi,hF,hE,hl⟩
 have lG:H.le G:=kp.le l03 hl03
 have p1:=kp.own o13 (o13.lt);have p2:=kp.own o23 (o23.lt);have p3:=kp.own o3 (o3.lt)
 have hgG:=g.le lG
 unfold F118.B5
 refine ld1_own p2 rfl (hgG.len (pif_cases (fun hb=>?_) fun hb=>?_))
 ·have hlt:i<fs.length:=by have:=of_decide_eq_true hb;omega
  have hm:fs.getD i (0,0)∈fs:=by rw [getD_of hlt];exact List.getElem_mem _
  have hr:=hf.rng _ hm
  obtain ⟨bb,oo,hk,q1,q2⟩:=hgG.idx (show (0:Int)≤i by omega) (by omega)
  simp only [Int.toNat_natCast] at q1 q2
  unfold F118.B4
  refine ld1_own p2 rfl (hk _ (ldI_mk q1 (ldI_own p1 rfl (ld1_own p2 rfl (hk _ (ldI_mk q2 (ldI_own p1 rfl ?_)))))))
  rw [wrap_id (by omega) (by omega),wrap_id (by omega) (by omega)]
  refine push_edge (x:=((fs.getD i (0,0)).1+n,(fs.getD i (0,0)).2+n)) hF kp.len (by omega) fun v3 G4 k4 _ _ f4=>?_
  unfold F118.B3
  rw [wrap_id (by omega) (by omega)]
  exact ⟨⟨rfl,rfl,rfl,kp.trans k4,i+1,_,by omega,by omega,f4,hE.snoc ⟨by omega,by omega⟩ ⟨by omega,by omega⟩,by simp;omega⟩,by simp;omega⟩
 ·have hge:=of_decide_eq_false hb
  unfold F118.B1
  refine ldI_own p1 rfl (ldI_own p2 rfl ?_)
  rw [wrap_id (by omega) (by omega)]
  refine l01Made_ok hF.edges (by omega) fun v' G2 l2' f2=>agg2_mk (asI_mk ?_)
  have hkl:=kp.len
  refine stK_f (new:=[.int .i64 (n+n2),v']) (p3.le l2') (by simp) (mem_iv (fresh_one f2)) rfl fun G5 b5 o5=>ldI_own o5 rfl (ld1_own o5 rfl ?_)
  have h3:=o3.lt
  have h12:=l1.1
  have h22:=l2.1
  exact k v' _ G5 (b5.le (AHeap.le_trans lG l2') (by omega)) ((f2.but b5 (by omega)).less (by omega)) ⟨by rw [srtE_length,List.length_map];omega,by rw [srtE_length,List.length_map];omega,hE.made,by omega,by omega⟩
theorem Gd.two (h:Gd n es) (a:2≤n) (b:n≤200):Gd2 n es:=⟨h.pos,by have:=h.len;omega,h.rng,a,b⟩
theorem l01Draw_ok (hs:Src Hb bs H) (k:∀ v' n es G,Kb bs H G→Src Hb bs G→Fresh H.length G v' 66 2 (LE es)→Gd2 n es→K (.agg ⟨[.int .i64 n,v']⟩) G) :
 AC Tryz.prog T0 58 [.pointer (some ⟨bs,0,none⟩)] H K:=by
 have hbs:=hs.lt
 apply F58.ac
 unfold F58.B8
 refine newK_f rfl fun H1 l1 n1 o1=>?_
 unfold F58.B7
 refine l01Next_ok (hs.le l1) fun r G1 k1 s1 r0 r1 _=>asI_mk ?_
 have kb1:Kb bs H G1:=(Kb.of_le l1).trans k1
 have ob1:=k1.own o1 (by omega)
 have hG1:=k1.len
 refine pif_cases (fun hb=>?_) fun hb=>?_
 ·unfold F58.B6
  apply F114.ac
  unfold F114.B2 F114.B1
  refine newK_f rfl fun G2 l2 n2 o2=>?_
  have kb2:=kb1.trans (.of_le l2)
  unfold F58.B5
  refine lenK_of (l01Next_ok (s1.le l2) fun r' G3 k3 s3 r0' r1' _=>asI_mk ?_)
  have hr:=r1' (by decide)
  obtain ⟨nm,hnm,hget⟩:=name_get (i:=r'.toNat) (c:=9) (by omega) (by decide)
  have o3:=k3.own o2 (by omega)
  have kb3:=kb2.trans k3
  have hG3:=kb3.len
  have ob3:=k3.own (ob1.le l2) (by omega)
  refine own_idx r0' hr (ld1_own o3 hget (asS_mk (l01Named_ok hnm fun n a0 a1 v0 es0 G4 l4 f4 g4 c4=>tup2_mk (agg2_mk (asI_mk (asB_mk (newK_f rfl fun G5 l5 n5 o5=>stK_f (new:=[.int .i64 n,v0]) o5 (by simp) (mem_iv (fresh_one f4)) rfl fun G6 b6 o6=>?_)))))))
  have l6:G4.le G6:=b6.le l5 (Nat.le_refl _)
  have l36:=AHeap.le_trans l4 l6
  have f6:=f4.le l6
  have s6:=s3.le l36
  have ob6:=ob3.le l36
  have kb6:=kb3.trans (.of_le l36)
  have hG6:=kb6.len
  have hl4:=l4.1
  unfold F58.B4
  refine ldI_own o6 rfl (ld1_own o6 rfl (ldI_own o6 rfl (l01DrawOrder_ok s6 (by omega) fun w D G7 k7 s7 f7 hDl hDr=>?_)))
  have o7:=k7.own o6 (by omega)
  have ob7:=k7.own ob6 (by omega)
  have kb7:=kb6.trans k7
  have f67:=fresh_kb f6 k7 (by omega)
  refine ⟨ldI_own o7 rfl (ld1_own o7 rfl ⟨rfl,rfl⟩),?_⟩
  refine l01Renamed_ok f67.edges g4 f7.ints hDl hDr fun v' es' G8 l8 f8 g8=>agg2_mk (asI_mk (draw_tail (s7.le l8) (kb7.trans (.of_le l8)) hbs (Nat.le_refl _) (ob7.le l8) (fresh_one f8) fun G9 b9 kb9 s9=>?_))
  have hG7:=ob7.lt
  exact k v' n es' G9 kb9 s9 (f8.but b9 (by omega) |>.less (by omega)) (g8.two a0 (by omega))
 ·unfold F58.B3
  refine l01Next_ok s1 fun r' G2 k2 s2 r0' r1' _=>asI_mk ?_
  have kb2:=kb1.trans k2
  have ob2:=k2.own ob1 (by omega)
  have hG2:=k2.len
  refine pif_cases (fun hb=>?_) fun hb=>?_
  ·unfold F58.B2
   refine l01Small_ok s2 fun va na ea G3 k3 s3 f3 g3 a0 a1=>agg2_mk (asI_mk ?_)
   have hG3:=k3.len
   refine l01Small_ok s3 fun vb nb eb G4 k4 s4 f4 g4 b0 b1=>agg2_mk (asI_mk ?_)
   have f34:=fresh_kb f3 k4 (by omega)
   have kb4:=(kb2.trans k3).trans k4
   have ob4:=k4.own (k3.own ob2 (by omega)) (by omega)
   have hG4:=k4.len
   refine l01Beside_ok f34.edges f4.edges g3 g4 a0 (by omega) b0 (by omega) fun v' es' G8 l8 f8 g8=>agg2_mk (asI_mk (draw_tail (s4.le l8) (kb4.trans (.of_le l8)) hbs (Nat.le_refl _) (ob4.le l8) (fresh_one f8) fun G9 b9 kb9 s9=>?_))
   exact k v' _ es' G9 kb9 s9 (f8.but b9 (by omega) |>.less (by omega)) g8
  ·unfold F58.B1
   refine newK_f rfl fun G3 l3 n3 o3=>?_
   refine l01Pick_ok (l:=[2,4,6,8,10,12,14,20]) (s2.le l3) (own_ints (l:=[2,4,6,8,10,12,14,20]) o3) (by decide) (by decide) (fun x hx=>by simp at hx;omega) (fun G3 k3=>own_ints (l:=[2,4,6,8,10,12,14,20]) (k3.own o3 (by omega))) fun r' G4 k4 s4 hr=>asI_mk ?_
   have hr:2≤r'∧r'≤20∧r'%2=0:=by simp at hr;omega
   have kb4:=(kb2.trans (.of_le l3)).trans k4
   have ob4:=k4.own (ob2.le l3) (by omega)
   have hG4:=k4.len
   have hG3:=l3.1
   refine l01DrawOf_ok s4 hr.1 (by omega) hr.2.2 fun v' es' G5 k5 s5 f5 g5=>agg2_mk (asI_mk (draw_tail s5 (kb4.trans k5) hbs (Nat.le_refl _) (k5.own ob4 (by omega)) (fresh_one f5) fun G9 b9 kb9 s9=>?_))
   exact k v' r' es' G9 kb9 s9 (f5.but b9 (by omega) |>.less (by omega)) (g5.two hr.1 (by omega))
end Go.Proofs
namespace Go.Proofs
open Go.Abs

variable {H:AHeap} {v u f:Value} {l m c:List Int} {es fs:List (Int × Int)} {K:Value→AHeap→Prop}

end Go.Proofs
namespace Go.Proofs
open Go.Abs

variable {H G:AHeap} {v u f w:Value} {l m c:List Int} {es fs:List (Int × Int)} {K:Value→AHeap→Prop} {ls L:List (List Int)} {bm:Nat}

theorem sl_but2 {m0 b:Nat} {t:TypeId} {z:Nat} {cs:List Value} (h:Sl m0 H v t z cs) (hb:But b H G) (hv:bk v≠some b):Sl m0 G v t z cs:=by
 rcases h with h|⟨b',n,pre,post,h1,rfl,h3,h4⟩
 ·exact .inl h
 ·exact .inr ⟨b',n,pre,post,h1,rfl,hb.own h3 (fun e=>hv (by rw [e];rfl)),h4⟩
end Go.Proofs
namespace Go.Proofs
open Go.Abs

variable {H G G' Hb H0:AHeap} {v u f w:Value} {l m D:List Int} {es fs:List (Int × Int)} {K:Value→AHeap→Prop} {bs:Nat} {n:Int}

theorem sl_kb {t:TypeId} {z:Nat} {cs:List Value} (h:Sl (bs+1) H v t z cs) (k:Kb bs H G):Sl (bs+1) G v t z cs:=by
 rcases h with h|⟨b,n,pre,post,h1,h2,h3,h4⟩
 ·exact .inl h
 ·exact .inr ⟨b,n,pre,post,h1,h2,k.old b _ (by omega) h3,h4⟩
theorem sl_one {m0:Nat} {t:TypeId} {z:Nat} {cs:List Value} (h:Sl m0 H v t z cs):v.oneCell'=true:=by
 rcases h with ⟨_,rfl|⟨a,rfl⟩⟩|⟨b,n,pre,post,_,rfl,_⟩ <;> rfl
theorem LE_drop:∀ (l:List (Int × Int)),(LE l).drop 2=LE (l.drop 1)
 | []=>rfl
 | x::l=>rfl
theorem put_edge {m0:Nat} {r a b:Int} {K:AHeap→Prop} (f:Fresh m0 G v 66 2 (LE es)) (h0:0≤r) (h1:r<es.length) (k:∀ c G',m0≤c→bk v=some c→But c G G'→Fresh m0 G' v 66 2 (LE (es.set r.toNat (a,b)))→K G') :
 idxK v r 2 (fun bb oo=>stK G bb oo [.int .i64 a,.int .i64 b] K):=by
 have hlt:r.toNat<es.length:=by omega
 rcases f with ⟨h,_⟩|⟨c,q,hc,rfl,o,hq⟩
 ·have:=congrArg List.length h
  rw [LE_length,List.length_nil] at this;omega
 ·have hqe:q=es.length:=by rw [LE_length] at hq;omega
  subst hqe
  refine own_idx2 h0 h1 (stK_f o (by rw [LE_length];simp;omega) (by simp [Value.oneCell']) (LE_set es (a,b) hlt) fun G' b' o'=>k c G' hc rfl b' (.inr ⟨c,es.length,hc,rfl,o',by rw [LE_length,List.length_set]⟩))
structure BdS (Hb H:AHeap) (bs:Nat) (n:Int) (v:Value) (es:List (Int × Int)) (x5:Value) (fs:List (Int × Int)) (G:AHeap):Prop where
 kb:Kb bs H G
 s:Src Hb bs G
 o3:Own G H.length 26 [.int .i64 n,v]
 o4:Own G (H.length+1) 26 [.int .i64 0,.slice none 0 0]
 f:Fresh (H.length+2) G x5 66 2 (LE fs)
 lt:bs<H.length
theorem BdS.step {x5:Value} (h:BdS Hb H bs n v es x5 fs G) (k:Kb bs G G') (s:Src Hb bs G'):BdS Hb H bs n v es x5 fs G':=
 ⟨h.kb.trans k,s,k.own h.o3 (by have:=h.lt;omega),k.own h.o4 (by have:=h.lt;omega),fresh_kb h.f k (by have:=h.lt;omega),h.lt⟩
theorem BdS.le {x5:Value} (h:BdS Hb H bs n v es x5 fs G) (l:G.le G'):BdS Hb H bs n v es x5 fs G':=h.step (.of_le l) (h.s.le l)
theorem BdS.but {x5:Value} {c:Nat} {fs':List (Int × Int)} (h:BdS Hb H bs n v es x5 fs G) (b:But c G G') (hc:H.length+2≤c) (f:Fresh (H.length+2) G' x5 66 2 (LE fs')):BdS Hb H bs n v es x5 fs' G':=
 ⟨h.kb.but b (by omega),h.s.but b (by have:=h.lt;omega),b.own h.o3 (by omega),b.own h.o4 (by omega),f,h.lt⟩
theorem BdS.reread {x5:Value} (h:BdS Hb H bs n v es x5 fs G):ldI .i64 G H.length 0 (fun v7=>((Value.int .i64 v7)=(Value.int .i64 n))∧(G=G)):=ldI_own h.o3 rfl ⟨rfl,rfl⟩
def BadK (Hb H:AHeap) (bs:Nat) (v:Value) (K:Value→AHeap→Prop):Prop:=∀ v' n' es' G,Kb bs H G→Src Hb bs G→Sl (bs+1) G v' 66 2 (LE es')→(∀ b,bk v'=some b→bk v=some b∨H.length≤b)→es'.length≤2000→-2≤n'→n'≤202→K (.agg ⟨[.int .i64 n',v']⟩) G
theorem bad_put {x5:Value} {n':Int} {gs:List (Int × Int)} (k:BadK Hb H bs v K) (h:BdS Hb H bs n v es x5 fs G) (hs:Sl (bs+1) G w 66 2 (LE gs)) (hw:bk w≠some (H.length+1)) (hv:∀ b,bk w=some b→bk v=some b∨H.length≤b) (hl:gs.length≤2000) (h0:-2≤n') (h1:n'≤202) :
 stK G (H.length+1) 0 [.int .i64 n',w] (fun H7=>ldI .i64 H7 (H.length+1) 0 (fun v8=>ld1 H7 (H.length+1) 1 (fun v9=>K (.agg ⟨[.int .i64 v8,v9]⟩) H7))):=by
 have hbs:=h.lt
 exact draw_tail h.s h.kb (by omega) (by omega) h.o4 (sl_one hs) fun G9 b9 kb9 s9=>k w n' gs G9 kb9 s9 (sl_but2 hs b9 hw) hv hl h0 h1
theorem bad_B1 {x5 y:Value} {gs:List (Int × Int)} (k:BadK Hb H bs v K) (h:BdS Hb H bs n v es x5 fs G) (hs:Sl (H.length+2) G y 66 2 (LE gs)) (hl:gs.length≤2000) (h0:2≤n) (h1:n≤200):F62.B1 K H.length (H.length+1) y G:=by
 have hbs:=h.lt
 unfold F62.B1
 refine ldI_own h.o3 rfl (pif_t (sl_one hs) (bad_put k h (hs.less (by omega)) (fun e=>by have:=(hs.lt e).1;omega) (fun b e=>.inr (by have:=(hs.lt e).1;omega)) hl (by omega) (by omega)))
theorem l01Bad_ok (hs:Src Hb bs H) (h:Sl (bs+1) H v 66 2 (LE es)) (hg:Gd2 n es) (k:BadK Hb H bs v K) :
 AC Tryz.prog T0 62 [.pointer (some ⟨bs,0,none⟩),.agg ⟨[.int .i64 n,v]⟩] H K:=by
 have hbs:=hs.lt
 have gl:=hg.len;have gp:=hg.pos;have n0:=hg.lo;have n1:=hg.hi
 have hE:=sl_edges h
 apply F62.ac
 unfold F62.B15
 refine newK_f (all_iv (edges_one' hE)) fun H1 l1 m1 o1=>newK_f rfl fun H2 l2 m2 o2=>?_
 rw [m1] at o2 ⊢
 have o12:=o1.le l2
 have l02:=AHeap.le_trans l1 l2
 unfold F62.B14
 refine newK_f rfl fun H4 l4 n4 o4=>ld1_own (o12.le l4) rfl ?_
 have l04:=AHeap.le_trans l02 l4
 have e2:H2.length=H.length+2:=by rw [m2,m1]
 refine app_edges (m0:=H2.length) (es:=[]) (Fresh.sl (.inr ⟨_,0,Nat.le_refl _,rfl,o4,rfl⟩)) l4.1 (hE.le l04) gp (by simp;omega) fun x5 H5 k5 _ f5=>?_
 rw [List.nil_append] at f5
 have kp:=(Keep.of_le l4).trans k5
 have l05:H.le H5:=kp.le l02 l02.1
 unfold F62.B13
 have st5:BdS Hb H bs n v es x5 es H5:=⟨.of_le l05,hs.le l05,kp.own o12 o12.lt,kp.own o2 o2.lt,by rw [e2] at f5;exact f5,hbs⟩
 refine l01Next_ok st5.s fun r G1 k1 s1 r0 r1 _=>asI_mk ?_
 have st:=st5.step k1 s1
 have hvG:=sl_kb (h.le l05) k1
 have fin2:∀ G (r a b:Int),BdS Hb H bs n v es x5 es G→0≤r→r<es.length→idxK x5 r 2 (fun bb oo=>stK G bb oo [.int .i64 a,.int .i64 b] (fun H20=>F62.B1 K H.length (H.length+1) x5 H20)):=fun G r a b hS h0 h1=>
  put_edge hS.f h0 h1 fun c G' hc _ b' f'=>bad_B1 k (hS.but b' hc f') f'.sl (by rw [List.length_set];exact gl) n0 n1
 unfold F62.B12
 refine pif_cases (fun hb=>?_) fun hb=>?_
 ·unfold F62.B2
  refine ldI_own st.o3 rfl ?_
  rw [wrap_id (by omega) (by omega)]
  refine newK_f rfl fun G2 l2 n2 o2=>?_
  have hG1:=st.o4.lt
  refine l01Pick_ok (l:=[0,3,22,-2,n+2]) (st.le l2).s (own_ints (l:=[0,3,22,-2,n+2]) o2) (by simp) (by simp) (fun x hx=>by simp at hx;omega) (fun G3 k3=>own_ints (l:=[0,3,22,-2,n+2]) (k3.own o2 (by omega))) fun r' G3 k3 s3 hr=>asI_mk ?_
  have hr:-2≤r'∧r'≤202:=by simp at hr;omega
  have st3:=(st.le l2).step k3 s3
  refine pif_t (fresh_one st3.f) (bad_put k st3 (st3.f.sl.less (by omega)) (fun e=>by have:=(st3.f.bk_lt e).1;omega) (fun b e=>.inr (by have:=(st3.f.bk_lt e).1;omega)) gl hr.1 hr.2)
 unfold F62.B11
 refine pif_cases (fun hb=>?_) fun hb=>?_
 ·unfold F62.B3
  have hG1:=st.o4.lt
  have hlen:∀ {K:Nat→Prop},K es.length→lenK x5 K:=fun k'=>st.f.edges.len k'
  have pk:∀ {G2:AHeap} {b:Nat},Own G2 b 2 [.int .i64 (-1),.int .i64 n,.int .i64 0]→b≠bs→BdS Hb H bs n v es x5 es G2→∀ (Q:Value→AHeap→Prop),(∀ r' G3,BdS Hb H bs n v es x5 es G3→Q (.int .i64 r') G3)→AC Tryz.prog T0 78 [.pointer (some ⟨bs,0,none⟩),.slice (some ⟨b,0,none⟩) 3 (3+1)] G2 Q:=fun {G2 b} o hb st2 Q hQ=>by
   refine l01Pick_ok (l:=[-1,n,0]) st2.s (own_ints (l:=[-1,n,0]) o) (by simp) (by simp) (fun x hx=>by simp at hx;omega) (fun G3 k3=>own_ints (l:=[-1,n,0]) (k3.own o hb)) fun r' G3 k3 s3 hr=>hQ r' G3 (st2.step k3 s3)
  refine hlen (ldI_own st.o3 rfl (ldI_own st.o3 rfl ⟨?_,?_⟩))
  ·refine l01Next_ok st.s fun q G2 k2 s2 q0 q1 _=>asI_mk ?_
   have st2:=st.step k2 s2
   have hq:=q1 (by omega)
   refine ⟨st2.reread,st2.reread,⟨?_,?_⟩⟩
   ·refine l01Next_ok st2.s fun a G3 k3 s3 a0 a1 _=>asI_mk ?_
    have st3:=st2.step k3 s3
    refine ⟨st3.reread,newK_f rfl fun G4 l4 n4 o4=>pk o4 (by have:=st3.o4.lt;omega) (st3.le l4) _ fun r' G5 st5=>asI_mk (fin2 G5 q a r' st5 q0 hq)⟩
   ·refine newK_f rfl fun G4 l4 n4 o4=>?_
    have st4:=st2.le l4
    refine l01Next_ok st4.s fun a G3 k3 s3 a0 a1 _=>asI_mk ?_
    have st3:=st4.step k3 s3
    have hne:G2.length≠bs:=by have:=st2.o4.lt;omega
    exact ⟨st3.reread,pk (k3.own o4 hne) hne st3 _ fun r' G5 st5=>asI_mk (fin2 G5 q a r' st5 q0 hq)⟩
  ·refine newK_f rfl fun G4 l4 n4 o4=>?_
   have st4:=st.le l4
   have hne:G1.length≠bs:=by have:=st.o4.lt;omega
   refine l01Next_ok st4.s fun q G2 k2 s2 q0 q1 _=>asI_mk ?_
   have st2:=st4.step k2 s2
   have hq:=q1 (by omega)
   refine ⟨st2.reread,st2.reread,l01Next_ok st2.s fun a G3 k3 s3 a0 a1 _=>asI_mk ?_⟩
   have st3:=st2.step k3 s3
   exact ⟨st3.reread,pk (k3.own (k2.own o4 hne) hne) hne st3 _ fun r' G5 st5=>asI_mk (fin2 G5 q a r' st5 q0 hq)⟩
 unfold F62.B10
 refine pif_cases (fun hb=>?_) fun hb=>?_
 ·have eG:=st.f.edges
  unfold F62.B6
  obtain ⟨bb,oo,hk,q1,q2⟩:=eG.idx (show (0:Int)≤0 by omega) (by omega)
  refine hk _ (ldI_mk q1 (ldI_mk q2 (newK_f rfl fun G2 l2 n2 o2=>stK_f (new:=[.int .i64 (es.getD 0 (0,0)).1,.int .i64 (es.getD 0 (0,0)).2]) o2 (by simp) (by simp [Value.oneCell']) rfl fun G3 b3 o3=>?_)))
  have l3:G1.le G3:=b3.le l2 (Nat.le_refl _)
  have st3:=st.le l3
  have hlen3:∀ {K:Nat→Prop},K es.length→lenK x5 K:=fun k'=>st.f.edges.len k'
  have hx6:=st.o4.lt
  unfold F62.B5
  refine hlen3 ?_
  rw [wrap_id (by omega) (by omega)]
  obtain ⟨bb,oo,hk,q1,q2⟩:=st3.f.edges.idx (show (0:Int)≤(es.length:Int)-1 by omega) (by omega)
  refine hk _ (ldI_mk q1 (ldI_mk q2 (put_edge st3.f (by omega) (by omega) fun c G4 hc hcb b4 f4=>?_)))
  have st4:=st3.but b4 hc f4
  have o6:=b4.own o3 (by have:=(st.f.bk_lt hcb).2;omega)
  ·unfold F62.B4
   refine f4.edges.len (ldI_own o6 rfl (ldI_own o6 rfl ?_))
   rw [List.length_set,wrap_id (by omega) (by omega)]
   exact put_edge f4 (by omega) (by rw [List.length_set];omega) fun c G' hc _ b' f'=>bad_B1 k (st4.but b' hc f') f'.sl (by rw [List.length_set,List.length_set];exact gl) n0 n1
 unfold F62.B9
 refine pif_cases (fun hb=>?_) fun hb=>?_
 ·unfold F62.B7
  refine st.f.sl.drop (i:=1) (n:=es.length) (LE_length es) (by decide) gp gp fun v' h'=>?_
  rw [Nat.one_mul,LE_drop] at h'
  exact bad_B1 k st h' (by rw [List.length_drop];omega) n0 n1
 ·unfold F62.B8
  refine ldI_own st.o3 rfl (ld1_own st.o3 rfl (bad_put k st hvG (fun e=>by have:=(h.lt e).2;omega) (fun b e=>.inl e) gl (by omega) (by omega)))
theorem l01Spoil_ok (hs:Src Hb bs H) (k:∀ v' n' es' G,Kb bs H G→Src Hb bs G→Sl H.length G v' 66 2 (LE es')→es'.length≤2000→-2≤n'→n'≤202→K (.agg ⟨[.int .i64 n',v']⟩) G):AC Tryz.prog T0 64 [.pointer (some ⟨bs,0,none⟩)] H K:=by
 have hbs:=hs.lt
 apply F64.ac
 unfold F64.B2
 refine newK_f rfl fun H1 l1 n1 o1=>?_
 unfold F64.B1
 refine l01Draw_ok (hs.le l1) fun v1 n1' es1 G1 k1 s1 f1 g1=>agg2_mk (asI_mk ?_)
 have hk1:=k1.len
 refine l01Bad_ok s1 (f1.sl.less (by omega)) g1 fun v2 n2 es2 G2 k2 s2 h2 hv c2 a0 a1=>agg2_mk (asI_mk ?_)
 have kb2:=((Kb.of_le l1).trans k1).trans k2
 have hne:∀ b,bk v2=some b→H1.length≤b:=fun b hb=>by
  rcases hv b hb with e|e
  ·exact (f1.bk_lt e).1
  ·omega
 refine draw_tail s2 kb2 hbs (Nat.le_refl _) (k2.own (k1.own o1 (by omega)) (by omega)) (sl_one h2) fun G9 b9 kb9 s9=>?_
 have h9:=sl_but2 h2 b9 (fun e=>by have:=hne _ e;omega)
 refine k v2 n2 es2 G9 kb9 s9 ?_ c2 a0 a1
 rcases h9 with h|⟨b,q,pre,post,q1,rfl,q3,q4⟩
 ·exact .inl h
 ·exact .inr ⟨b,q,pre,post,by have:=hne b rfl;omega,rfl,q3,q4⟩
end Go.Proofs
namespace Go.Proofs
open Go.Abs

variable {H G G' Hb H0:AHeap} {v u f w:Value} {l m D:List Int} {es fs:List (Int × Int)} {K:Value→AHeap→Prop} {bs:Nat} {n:Int}

theorem put_graph {x2 m0:Nat} (o:Own G x2 26 [.int .i64 0,.slice none 0 0]) (l:H.le G) (hx:H.length≤x2) (hs:Sl m0 G v 66 2 (LE es)) (hm:x2<m0) (k:∀ G',But x2 G G'→H.le G'→Sl m0 G' v 66 2 (LE es)→K (.agg ⟨[.int .i64 n,v]⟩) G') :
 stK G x2 0 [.int .i64 n,v] (fun H7=>ldI .i64 H7 x2 0 (fun v8=>ld1 H7 x2 1 (fun v9=>K (.agg ⟨[.int .i64 v8,v9]⟩) H7))):=by
 refine stK_f (new:=[.int .i64 n,v]) o (by simp) (mem_iv (sl_one hs)) rfl fun G5 b5 o5=>ldI_own o5 rfl (ld1_own o5 rfl ?_)
 exact k G5 b5 (b5.le l hx) (hs.but b5 hm)
def DrwK (H:AHeap) (K:Value→AHeap→Prop):Prop:=∀ v n es G,H.le G→Sl H.length G v 66 2 (LE es)→es.length≤2000→K (.agg ⟨[.int .i64 n,v]⟩) G
end Go.Proofs
namespace Go.Proofs
open Go.Abs

variable {H:AHeap} {v u f:Value} {l m c:List Int} {es fs:List (Int × Int)} {K:Value→AHeap→Prop}

theorem and32 {y:Int} (h0:0≤y) (h1:y<4294967296):IntKind.u64.wrap (((BitVec.ofInt 64 y&&&BitVec.ofInt 64 4294967295).toNat:Nat):Int)=y:=by
 obtain ⟨n,rfl⟩:=Int.eq_ofNat_of_zero_le h0
 have h:(BitVec.ofInt 64 ((n:Nat):Int)&&&BitVec.ofInt 64 4294967295).toNat=n:=by
  rw [BitVec.toNat_and,show (BitVec.ofInt 64 4294967295).toNat=2^32-1 from by decide,Nat.and_two_pow_sub_one_eq_mod]
  simp only [BitVec.ofInt_natCast,BitVec.toNat_ofNat]
  omega
 rw [h]
 simp only [IntKind.wrap,IntKind.bits,IntKind.signed,Bool.false_and,Bool.false_eq_true,if_false]
 omega
theorem mul64_ok {y:Int} (h0:0≤y) (h1:y<4294967296) (k:K (.tuple ⟨[.int .u64 0,.int .u64 y]⟩) H):AC Tryz.prog T0 204 [.int .u64 1,.int .u64 y] H K:=by
 apply F204.ac
 have e0:Int.fdiv y (2^(min (Int.toNat 32) 64))=0:=by
  rw [show (2:Int)^(min (Int.toNat 32) 64)=4294967296 from by decide,Int.fdiv_eq_ediv_of_nonneg _ (by decide)];omega
 have w:∀ z:Int,0≤z→z<4294967296→IntKind.u64.wrap z=z:=by
  intro z a b;simp only [IntKind.wrap,IntKind.bits,IntKind.signed,Bool.false_and,Bool.false_eq_true,if_false];omega
 unfold F204.B12 F204.B11 F204.B10
 rw [and32 (by decide) (by decide)]
 refine ⟨by decide,?_⟩
 rw [show Int.fdiv 1 (2^(min (Int.toNat 32) 64))=0 from by decide]
 unfold F204.B9 F204.B8
 rw [and32 h0 h1]
 refine ⟨by decide,?_⟩
 rw [e0]
 unfold F204.B7 F204.B6
 refine ⟨by decide,?_⟩
 rw [Int.one_mul,w y h0 h1,e0,Int.zero_mul,w 0 (by decide) (by decide),show (0:Int)+0=0 from rfl,w 0 (by decide) (by decide)]
 unfold F204.B5 F204.B4
 rw [and32 (by decide) (by decide)]
 refine ⟨by decide,?_⟩
 rw [show Int.fdiv 0 (2^(min (Int.toNat 32) 64))=0 from by decide]
 unfold F204.B3 F204.B2
 refine ⟨by decide,?_⟩
 simp only [show (1:Int)*0=0 from rfl,show (0:Int)*0=0 from rfl,show (0:Int)+0=0 from rfl,w 0 (by decide) (by decide),show Int.fdiv 0 (2^(min (Int.toNat 32) 64))=0 from by decide]
 unfold F204.B1
 rw [Int.one_mul,w y h0 h1]
 exact k
theorem mul_ok {y:Int} (h0:0≤y) (h1:y<4294967296) (k:K (.tuple ⟨[.int .u64 0,.int .u64 y]⟩) H):AC Tryz.prog T0 182 [.int .u64 1,.int .u64 y] H K:=by
 apply F182.ac
 unfold F182.B3 F182.B2
 refine mul64_ok h0 h1 ?_
 exact k
end Go.Proofs
namespace Go.Proofs
open Go.Abs

variable {H:AHeap} {l s:List Int}

theorem cp_own {b o n c2 sb so m c:Nat} {K:Nat→AHeap→Prop} (hb:Own H b 2 (LI l)) (hs:Own H sb 2 (LI s)) (hm:0<m) (hn:0<n) (h1:so+m≤s.length) (h2:o+n≤l.length)
 (k:∀ G,But b H G→Own G b 2 (LI (l.take o++(s.drop so).take (Nat.min m n)++l.drop (o+Nat.min m n)))→K (Nat.min m n) G) :
 cpK T0 2 H (.slice (some ⟨b,o,none⟩) n c2) (.slice (some ⟨sb,so,none⟩) m c) K:=by
 have hq:Nat.min m n≤m∧Nat.min m n≤n∧0<Nat.min m n:=⟨Nat.min_le_left _ _,Nat.min_le_right _ _,Nat.lt_min.2 ⟨hm,hn⟩⟩
 have hl:(LI ((s.drop so).take (Nat.min m n))).length=Nat.min m n:=by simp only [LI,List.length_map,List.length_take,List.length_drop];omega
 refine .inr ⟨sb,so,m,c,b,o,n,c2,LI l,LI ((s.drop so).take (Nat.min m n)),rfl,rfl,hb,hq.2.2,?_,?_,?_,k _ But.set ?_⟩
 ·rw [hl];exact (Nat.mul_one _).symm
 ·intro i u hu
  rw [hs.cell]
  have hi:=lt_of_get hu
  rw [hl] at hi
  simp only [LI,List.getElem?_map] at hu ⊢
  rw [List.getElem?_take_of_lt hi,List.getElem?_drop] at hu
  exact hu
 ·rw [hl];simp only [LI,List.length_map];omega
 ·rw [hl]
  have:b<H.length:=lt_of_get hb
  simp only [Own,LI,List.map_append,List.map_take,List.map_drop]
  rw [List.getElem?_set_self this]
end Go.Proofs
namespace Go.Proofs
open Go.Abs

variable {H:AHeap} {l s:List Int}

theorem repeat_ok {b1:Nat} {t n:Int} {K:Value→AHeap→Prop} (o:Own H b1 2 (LI [t])) (h0:0≤n) (h1:n≤1000000)
 (k:∀ G,H.le G→Own G H.length 2 (LI (List.replicate n.toNat t))→K (.slice (some ⟨H.length,0,none⟩) n.toNat (n.toNat+1)) G) :
 AC Tryz.prog T0 132 [.slice (some ⟨b1,0,none⟩) 1 (1+1),.int .i64 n] H K:=by
 obtain ⟨N,rfl⟩:=Int.eq_ofNat_of_zero_le h0
 have hu:IntKind.u64.wrap ((N:Nat):Int)=N:=by simp only [IntKind.wrap,IntKind.bits,IntKind.signed,Bool.false_and,Bool.false_eq_true,if_false];omega
 have hb1:b1<H.length:=lt_of_get o
 apply F132.ac
 unfold F132.B10 F132.B9
 refine pif_f (by simp) ?_
 unfold F132.B8
 refine lenK_of ?_
 rw [hu,show IntKind.u64.wrap ((1:Nat):Int)=1 from by decide]
 refine mul_ok (by omega) (by omega) ?_
 show F132.B7 K _ 0 N H
 unfold F132.B7
 refine pif_f (by decide) (pif_f (by simp;omega) ?_)
 unfold F132.B6
 rw [wrap_id (by omega) (by omega)]
 refine mkR_int (by omega) (by omega) (by decide) fun H2 l2 n2 o2=>?_
 rw [rep_one,Int.toNat_natCast] at o2
 simp only [Int.toNat_natCast] at k ⊢
 unfold F132.B5
 have main:∀ (i:Nat) G,i≤N→(0<i∨N=0)→H.le G→Own G H.length 2 (LI (List.replicate i t++List.replicate (N-i) 0))→F132.L2 K (.slice (some ⟨H.length,0,none⟩) N (N+1)) (i:Int) G:=by
  intro i G hi hp hl ho
  unfold F132.L2
  refine ⟨fun x7 x8 G=>x7=.slice (some ⟨H.length,0,none⟩) N (N+1)∧∃ i:Nat,x8=i∧i≤N∧(0<i∨N=0)∧H.le G∧Own G H.length 2 (LI (List.replicate i t++List.replicate (N-i) 0)),fun _ x8 _=>N-x8.toNat,⟨rfl,i,rfl,hi,hp,hl,ho⟩,?_⟩
  rintro x7 x8 G ⟨rfl,i,rfl,hi,hp,hl,ho⟩
  unfold F132.B4
  refine lenK_of ?_
  by_cases h:i<N
  ·refine pif_t (by simp;omega) ?_
   unfold F132.B3
   refine ⟨⟨_,_,ho,by simp [LI];omega⟩,by omega,by omega,by omega,?_⟩
   refine ⟨⟨_,_,ho,by simp [LI];omega⟩,by omega,by omega,by omega,?_⟩
   simp only [Int.toNat_natCast,Nat.zero_add,Nat.mul_one,Int.toNat_zero,Nat.zero_mul,Nat.sub_zero]
   refine cp_own ho ho (by omega) (by omega) (by first|(simp;done)|(simp;omega)) (by first|(simp;done)|(simp;omega)) fun G2 b2 o2=>?_
   have hq:Nat.min i (N-i)≤i∧Nat.min i (N-i)≤N-i∧0<Nat.min i (N-i):=⟨Nat.min_le_left _ _,Nat.min_le_right _ _,Nat.lt_min.2 ⟨by omega,by omega⟩⟩
   generalize Nat.min i (N-i)=q at hq o2 ⊢
   rw [wrap_id (by omega) (by omega)]
   refine ⟨⟨by first|trivial|rfl,i+q,by omega,by omega,by omega,b2.le hl (Nat.le_refl _),?_⟩,by omega⟩
   have e:(List.replicate i t++List.replicate (N-i) 0).take i++((List.replicate i t++List.replicate (N-i) 0).drop 0).take q++(List.replicate i t++List.replicate (N-i) 0).drop (i+q)=List.replicate (i+q) t++List.replicate (N-(i+q)) 0:=by
    rw [List.take_left' (by simp),List.drop_zero,List.take_append_of_le_length (by simp;omega),List.take_replicate,Nat.min_eq_left hq.1,List.replicate_append_replicate,List.drop_append,List.drop_eq_nil_of_le (by simp),List.nil_append,List.drop_replicate,List.length_replicate]
    congr 2;omega
   rw [e] at o2
   exact o2
  ·refine pif_f (by simp;omega) ?_
   unfold F132.B1
   obtain rfl:i=N:=by omega
   exact k _ hl (by simpa using ho)
 by_cases hN:N=0
 ·subst hN
  exact .inl ⟨_,_,_,_,_,_,rfl,rfl,.inr rfl,main 0 H2 (by omega) (.inr rfl) l2 (by simpa using o2)⟩
 ·refine cp_own o2 (l2.2 _ _ o) (by omega) (by omega) (by simp) (by simp) fun G b2 o3=>?_
  have hq:Nat.min 1 N=1:=Nat.min_eq_left (by omega)
  rw [hq] at o3 ⊢
  refine main 1 G (by omega) (.inl (by omega)) (b2.le l2 (Nat.le_refl _)) ?_
  simpa using o3
end Go.Proofs
namespace Go.Proofs
open Go.Abs

variable {H:AHeap} {u:Value} {fs:List (Int × Int)} {K:Value→AHeap→Prop}

end Go.Proofs
namespace Go.Proofs
open Go.Abs

variable {H G:AHeap} {v u f:Value} {l m c D:List Int} {es fs:List (Int × Int)} {K:Value→AHeap→Prop}

def farB (D:List Int) (w:Nat):Bool:=decide (w<D.length∧0≤D.getD w 0)
theorem farB_lt {w:Nat} (h:farB D w=true):w<D.length:=(of_decide_eq_true h).1
theorem farB_iff {w:Nat} (h:w<D.length):farB D w=true↔0≤D.getD w 0:=by unfold farB;rw [decide_eq_true_iff];exact ⟨fun h=>h.2,fun h'=>⟨h,h'⟩⟩
theorem farB_set {y:Nat} {d:Int} (h:y<D.length) (hd:0≤d):farB (D.set y d)=insB (farB D) y:=by
 funext j
 unfold farB insB
 rw [List.length_set]
 by_cases e:y=j
 ·subst e;rw [getD_set_self h];simp [h,hd]
 ·rw [getD_set_ne e];simp [e]
section
variable {adj:Nat→Nat→Prop} {a x n M:Nat} {D' D2:Nat→Prop} {S:Nat→Bool} {R:List Nat}
end
end Go.Proofs
namespace Go.Proofs
open Go.Abs

variable {H G:AHeap} {v u f:Value} {l m c D:List Int} {es fs:List (Int × Int)} {K:Value→AHeap→Prop}

end Go.Proofs
namespace Go.Proofs
open Go.Abs

variable {H G:AHeap} {v u f:Value} {l m c D:List Int} {es fs:List (Int × Int)} {K:Value→AHeap→Prop} {A:Nat→Prop} {B:Nat} {ls:List (List Int)}

end Go.Proofs
namespace Go.Proofs
open Go.Abs

variable {H G:AHeap} {v u f:Value} {l m c D:List Int} {es fs:List (Int × Int)} {K:Value→AHeap→Prop}

end Go.Proofs
namespace Go.Proofs
open Go.Abs

variable {H G:AHeap} {v u f:Value} {l m c D:List Int} {es fs:List (Int × Int)} {K:Value→AHeap→Prop} {A A':Nat→Prop} {B:Nat} {ls ms:List (List Int)}

end Go.Proofs
namespace Go.Proofs
open Go.Abs

variable {H G:AHeap}

end Go.Proofs
namespace Go.Proofs
open Go.Abs

variable {H G:AHeap} {v u f:Value} {l m c D:List Int} {es fs:List (Int × Int)} {K:Value→AHeap→Prop} {A:Nat→Prop} {B:Nat} {ls:List (List Int)}

end Go.Proofs
namespace Go.Proofs
open Go.Abs

variable {es:List (Int × Int)} {p q:Nat→Bool} {n:Int} {w:Int}

def cn (f:Nat→Bool):Nat→Nat
 | 0=>0
 | k+1=>cn f k+if f k then 1 else 0
theorem cn_filt (f:Nat→Bool):∀ k,(filtB f k).length=cn f k
 | 0=>rfl
 | k+1=>by rw [filtB_succ,List.length_append,cn_filt f k,cn];split <;> rfl
theorem cn_congr {f g:Nat→Bool}:∀ {k},(∀ i,i<k→f i=g i)→cn f k=cn g k
 | 0,_=>rfl
 | k+1,h=>by rw [cn,cn,cn_congr fun i hi=>h i (by omega),h k (by omega)]
theorem cn_zero {f:Nat→Bool}:∀ {k},(∀ i,i<k→f i=false)→cn f k=0
 | 0,_=>rfl
 | k+1,h=>by rw [cn,cn_zero fun i hi=>h i (by omega),h k (by omega)];rfl
theorem cn_le {f g:Nat→Bool}:∀ {k},(∀ i,i<k→f i=true→g i=true)→cn f k≤cn g k
 | 0,_=>Nat.le_refl _
 | k+1,h=>by
  have:=cn_le (k:=k) fun i hi=>h i (by omega)
  have:=h k (by omega)
  rw [cn,cn]
  cases hf:f k <;> cases hg:g k <;> simp_all
  omega
theorem cn_pos {f:Nat→Bool} {i:Nat} (hf:f i=true):∀ {k},i<k→0<cn f k
 | k+1,h=>by
  rw [cn]
  by_cases e:i=k
  ·subst e;rw [hf];simp
  ·have:=cn_pos hf (k:=k) (by omega);omega
theorem cn_some {f:Nat→Bool}:∀ {k},0<cn f k→∃ i,i<k∧f i=true
 | 0,h=>by simp [cn] at h
 | k+1,h=>by
  rw [cn] at h
  cases hf:f k with
  | true=>exact ⟨k,by omega,hf⟩
  | false=>
   rw [hf] at h
   obtain ⟨i,h1,h2⟩:=cn_some (k:=k) (by simpa using h)
   exact ⟨i,by omega,h2⟩
theorem cn_del {f:Nat→Bool} {i:Nat} (hf:f i=true):∀ {k},i<k→cn (fun j=>f j&&!decide (j=i)) k+1=cn f k
  | k+1,h=>by
    rw [cn,cn]
    by_cases e:i=k
    · subst e
      rw [cn_congr (g := f) fun j hj => by have : j ≠ i := by omega
                                           simp [this],hf];simp
    · have:=cn_del hf (k:=k) (by omega)
      have hk:k≠i:=by omega
      simp only [hk,decide_false,Bool.not_false,Bool.and_true]
      omega
theorem cn_lt {f g:Nat→Bool} {i k:Nat} (h:∀ i,i<k→f i=true→g i=true) (hg:g i=true) (hf:f i=false) (hi:i<k):cn f k<cn g k:=by
 rw [← cn_del hg hi]
 refine Nat.lt_succ_of_le (cn_le fun j hj hfj=>?_)
 have:j≠i:=by rintro rfl;rw [hf] at hfj;cases hfj
 simp [h j hj hfj,this]
theorem cn_xor (f g:Nat→Bool):∀ k,cn (fun j=>f j ^^ g j) k%2=(cn f k+cn g k)%2
 | 0=>rfl
 | k+1=>by
  have:=cn_xor f g k
  rw [cn,cn,cn]
  cases f k <;> cases g k <;> simp <;> omega
theorem degB_cn (p:Nat→Bool) (w:Int):degB es p w=cn (fun j=>on (es.getD j (0,0)) w&&p j) es.length:=cn_filt _ _
theorem deg_xor (p q:Nat→Bool) (w:Int):degB es (fun j=>p j ^^ q j) w%2=(degB es p w+degB es q w)%2:=by
 rw [degB_cn,degB_cn,degB_cn,← cn_xor]
 congr 1
 exact cn_congr fun j _=>by cases on (es.getD j (0,0)) w <;> simp
theorem deg_congr (h:∀ j,j<es.length→p j=q j):degB es p w=degB es q w:=by
 rw [degB_cn,degB_cn];exact cn_congr fun j hj=>by rw [h j hj]
theorem deg_le (h:∀ j,j<es.length→p j=true→q j=true):degB es p w≤degB es q w:=by
 rw [degB_cn,degB_cn]
 exact cn_le fun j hj hp=>by simp only [Bool.and_eq_true] at hp ⊢;exact ⟨hp.1,h j hj hp.2⟩
theorem deg_del {i:Nat} (hi:i<es.length) (hp:p i=true):degB es (fun j=>p j&&!decide (j=i)) w+(if on (es.getD i (0,0)) w then 1 else 0)=degB es p w:=by
 rw [degB_cn,degB_cn]
 cases ho:on (es.getD i (0,0)) w with
 | true=>
  rw [← cn_del (f:=fun j=>on (es.getD j (0,0)) w&&p j) (i:=i) (by simp [ho,hp];simpa using ho) hi]
  simp [Bool.and_assoc]
 | false=>
  rw [if_neg (by simp),Nat.add_zero]
  refine cn_congr fun j hj=>?_
  by_cases e:j=i
  ·subst e;simp only [ho,Bool.false_and]
  ·simp [e]
theorem deg_zero (h:degB es p w=0) {i:Nat} (hi:i<es.length) (hp:p i=true):on (es.getD i (0,0)) w=false:=by
 cases ho:on (es.getD i (0,0)) w with
 | false=>rfl
 | true=>have:=degB_pos (es:=es) (p:=p) (x:=w.toNat) hi hp;rw [degB_cn] at h;have:=cn_pos (f:=fun j=>on (es.getD j (0,0)) w&&p j) (i:=i) (by rw [ho,hp];rfl) hi;omega
theorem deg_some (h:0<degB es p w):∃ i,i<es.length∧p i=true∧on (es.getD i (0,0)) w=true:=by
 rw [degB_cn] at h
 obtain ⟨i,h1,h2⟩:=cn_some h
 simp only [Bool.and_eq_true] at h2
 exact ⟨i,h1,h2.2,h2.1⟩
def sm (f:Nat→Nat):Nat→Nat
 | 0=>0
 | k+1=>sm f k+f k
theorem sm_congr {f g:Nat→Nat}:∀ {k},(∀ i,i<k→f i=g i)→sm f k=sm g k
 | 0,_=>rfl
 | k+1,h=>by rw [sm,sm,sm_congr fun i hi=>h i (by omega),h k (by omega)]
theorem sm_add (f g:Nat→Nat):∀ k,sm (fun i=>f i+g i) k=sm f k+sm g k
 | 0=>rfl
 | k+1=>by rw [sm,sm,sm,sm_add f g k];omega
theorem sm_zero:∀ k,sm (fun _=>0) k=0
 | 0=>rfl
 | k+1=>by rw [sm,sm_zero k]
theorem sm_even {f:Nat→Nat}:∀ {k},(∀ i,i<k→f i%2=0)→sm f k%2=0
 | 0,_=>rfl
 | k+1,h=>by have:=sm_even (k:=k) fun i hi=>h i (by omega);have:=h k (by omega);rw [sm];omega
theorem sm_le {f g:Nat→Nat}:∀ {k},(∀ i,i<k→f i≤g i)→sm f k≤sm g k
 | 0,_=>Nat.le_refl _
 | k+1,h=>by have:=sm_le (k:=k) fun i hi=>h i (by omega);have:=h k (by omega);rw [sm,sm];omega
theorem sm_lt {f g:Nat→Nat} {i:Nat} (hi':f i<g i):∀ {k},(∀ i,i<k→f i≤g i)→i<k→sm f k<sm g k
 | k+1,h,hi=>by
  rw [sm,sm]
  by_cases e:i=k
  ·subst e;have:=sm_le (k:=i) fun j hj=>h j (by omega);omega
  ·have:=sm_lt hi' (k:=k) (fun j hj=>h j (by omega)) (by omega);have:=h k (by omega);omega
theorem sm_if (f:Nat→Bool):∀ k,sm (fun i=>if f i then 1 else 0) k=cn f k
 | 0=>rfl
 | k+1=>by rw [sm,cn,sm_if f k]
theorem sm_swap (f:Nat→Nat→Nat) (m:Nat):∀ k,sm (fun i=>sm (fun j=>f i j) m) k=sm (fun j=>sm (fun i=>f i j) k) m
 | 0=>by simp only [sm];exact (sm_zero m).symm
 | k+1=>by rw [sm,sm_swap f m k,← sm_add];exact sm_congr fun i _=>by rw [sm]
theorem sm_one {a:Nat} {c:Nat}:∀ {k},a<k→sm (fun i=>if i=a then c else 0) k=c
 | k+1,h=>by
  rw [sm]
  by_cases e:a=k
  ·subst e
   rw [sm_congr (g:=fun _=>0) fun i hi=>if_neg (by omega),sm_zero];simp
  ·rw [sm_one (k:=k) (by omega),if_neg (by omega),Nat.add_zero]
structure EndsIn (n:Int) (es:List (Int × Int)):Prop where
 get:∀ j,j<es.length→∃ a b:Nat,es.getD j (0,0)=((a:Int),(b:Int))∧a≠b∧(a:Int)<n∧(b:Int)<n
theorem IsG.endsIn (h:IsG n es):EndsIn n es:=⟨fun j hj=>by
 have hm:es.getD j (0,0)∈es:=by rw [getD_of hj];exact List.getElem_mem _
 obtain ⟨h1,h2,h3,h4,h5⟩:=h.ed.ends _ hm
 refine ⟨(es.getD j (0,0)).1.toNat,(es.getD j (0,0)).2.toNat,?_,by omega,by omega,by omega⟩
 rw [Int.toNat_of_nonneg h1,Int.toNat_of_nonneg h3]⟩
theorem hands (he:EndsIn n es) (A:Nat→Bool) (p:Nat→Bool) :
 sm (fun w=>if A w then degB es p w else 0) n.toNat=sm (fun j=>if p j then (if A (es.getD j (0,0)).1.toNat then 1 else 0)+(if A (es.getD j (0,0)).2.toNat then 1 else 0) else 0) es.length:=by
 have e1:∀ w,(if A w then degB es p w else 0)=sm (fun j=>if A w&&(on (es.getD j (0,0)) w&&p j) then 1 else 0) es.length:=fun w=>by
  cases hA:A w with
  | false=>simp [sm_zero]
  | true=>rw [sm_if];simp only [Bool.true_and,if_true];rw [degB_cn]
 rw [sm_congr fun w _=>e1 w,sm_swap]
 refine sm_congr fun j hj=>?_
 obtain ⟨a,b,hab,hne,ha,hb⟩:=he.get j hj
 rw [hab]
 cases hp:p j with
 | false=>simp [sm_zero]
 | true=>
  simp only [if_true,Int.toNat_natCast,Bool.and_true]
  rw [← sm_one (a:=a) (c:=if A a then 1 else 0) (k:=n.toNat) (by omega),← sm_one (a:=b) (c:=if A b then 1 else 0) (k:=n.toNat) (by omega),← sm_add]
  refine sm_congr fun w hw=>?_
  unfold on
  by_cases h1:w=a
  ·subst h1
   simp [hne]
  ·by_cases h2:w=b
   ·subst h2
    simp [hne,h1]
   ·have g1:¬ (a:Int)=w:=by omega
    have g2:¬ (b:Int)=w:=by omega
    simp [h1,h2,g1,g2]
def pAdj (es:List (Int × Int)) (p:Nat→Bool) (a b:Nat):Prop:=∃ j,j<es.length∧p j=true∧(es.getD j (0,0)=((a:Int),(b:Int))∨es.getD j (0,0)=((b:Int),(a:Int)))
theorem pAdj_symm (a b:Nat) (h:pAdj es p a b):pAdj es p b a:=by
 obtain ⟨j,h1,h2,h3⟩:=h
 exact ⟨j,h1,h2,h3.symm⟩
theorem pAdj_mono (h:∀ j,j<es.length→p j=true→q j=true) (a b:Nat) (k:pAdj es p a b):pAdj es q a b:=by
 obtain ⟨j,h1,h2,h3⟩:=k
 exact ⟨j,h1,h j h1 h2,h3⟩
theorem even_joins (he:EndsIn n es) (hp:EvenS n es p) {i a b:Nat} (hi:i<es.length) (hpi:p i=true) (hab:es.getD i (0,0)=((a:Int),(b:Int))):Rch (pAdj es fun j=>p j&&!decide (j=i)) a b:=by
 apply Classical.byContradiction
 intro hn
 let A:Nat→Bool:=fun w=>decide (Rch (pAdj es fun j=>p j&&!decide (j=i)) a w)
 have h1:=hands he A p
 have h2:sm (fun w=>if A w then degB es p w else 0) n.toNat%2=0:=sm_even fun w hw=>by
  split
  ·exact hp w (by omega)
  ·rfl
 have h3:sm (fun j=>if p j then (if A (es.getD j (0,0)).1.toNat then 1 else 0)+(if A (es.getD j (0,0)).2.toNat then 1 else 0) else 0) es.length=sm (fun j=>(if p j&&!decide (j=i) then (if A (es.getD j (0,0)).1.toNat then 1 else 0)+(if A (es.getD j (0,0)).2.toNat then 1 else 0) else 0)+if j=i then 1 else 0) es.length:=sm_congr fun j hj=>by
  by_cases e:j=i
  ·subst e
   have ha:A a=true:=decide_eq_true .refl
   have hb:A b=false:=decide_eq_false hn
   simp only [hpi,hab,Int.toNat_natCast,ha,hb];simp
  ·simp [e]
 rw [h3,sm_add,sm_one hi] at h1
 have h4:sm (fun j=>if p j&&!decide (j=i) then (if A (es.getD j (0,0)).1.toNat then 1 else 0)+(if A (es.getD j (0,0)).2.toNat then 1 else 0) else 0) es.length%2=0:=sm_even fun j hj=>by
  split
  ·rename_i hpj
   obtain ⟨c,d,hcd,_⟩:=he.get j hj
   rw [hcd]
   simp only [Int.toNat_natCast]
   have hA:A c=A d:=by
    have f1:pAdj es (fun j=>p j&&!decide (j=i)) c d:=⟨j,hj,hpj,.inl hcd⟩
    have f2:pAdj es (fun j=>p j&&!decide (j=i)) d c:=⟨j,hj,hpj,.inr hcd⟩
    exact decide_eq_decide.2 ⟨fun r=>.step r f1,fun r=>.step r f2⟩
   by_cases hd:A d=true
   ·rw [if_pos hd,if_pos (hA.trans hd)]
   ·rw [if_neg hd,if_neg (by rw [hA];exact hd)]
  ·rfl
 omega
structure Forest (es:List (Int × Int)) (t:Nat→Bool):Prop where
 out:∀ j,j<es.length→t j=true→∀ a b:Nat,es.getD j (0,0)=((a:Int),(b:Int))→¬ Rch (pAdj es fun i=>t i&&decide (i<j)) a b
 in':∀ j,j<es.length→t j=false→∀ a b:Nat,es.getD j (0,0)=((a:Int),(b:Int))→Rch (pAdj es fun i=>t i&&decide (i<j)) a b
theorem last_of {f:Nat→Bool}:∀ {k},(∃ i,i<k∧f i=true)→∃ i,i<k∧f i=true∧∀ j,j<k→f j=true→j≤i
 | 0,⟨i,h,_⟩=>by omega
 | k+1,⟨i,h1,h2⟩=>by
  cases hf:f k with
  | true=>exact ⟨k,by omega,hf,fun j hj _=>by omega⟩
  | false=>
   have:i≠k:=by rintro rfl;rw [hf] at h2;cases h2
   obtain ⟨r,r1,r2,r3⟩:=last_of (k:=k) ⟨i,by omega,h2⟩
   refine ⟨r,by omega,r2,fun j hj hfj=>?_⟩
   have hjk:j≠k:=by rintro rfl;rw [hf] at hfj;cases hfj
   exact r3 j (by omega) hfj
theorem Forest.none {t:Nat→Bool} (ht:Forest es t) (he:EndsIn n es) (hp:EvenS n es p) (hs:∀ j,j<es.length→p j=true→t j=true):∀ j,j<es.length→p j=false:=by
 intro j hj
 cases hpj:p j with
 | false=>rfl
 | true=>
  exfalso
  obtain ⟨i,h1,h2,h3⟩:=last_of (f:=p) ⟨j,hj,hpj⟩
  obtain ⟨a,b,hab,_⟩:=he.get i h1
  refine ht.out i h1 (hs i h1 h2) a b hab ((even_joins he hp h1 h2 hab).mono (pAdj_mono fun k hk hk'=>?_))
  simp only [Bool.and_eq_true,Bool.not_eq_true',decide_eq_false_iff_not,decide_eq_true_eq] at hk' ⊢
  exact ⟨hs k hk hk'.1,by have:=h3 k hk hk'.1;omega⟩
theorem deg_one {i a b:Nat} (hi:i<es.length) (hab:es.getD i (0,0)=((a:Int),(b:Int))) (hne:a≠b) (x:Nat):degB es (fun j=>decide (j=i)) x=(if x=a then 1 else 0)+(if x=b then 1 else 0):=by
 have h0:=deg_del (w:=(x:Int)) (p:=fun j=>decide (j=i)) hi (by simp)
 rw [deg_congr (q:=fun _=>false) fun j hj=>by simp] at h0
 have h1:degB es (fun _=>false) (x:Int)=0:=by rw [degB_cn];exact cn_zero fun j hj=>by simp
 rw [← h0,h1,hab,Nat.zero_add]
 unfold on
 by_cases e1:x=a
 ·subst e1;simp [hne]
 ·by_cases e2:x=b
  ·subst e2;simp [hne.symm,e1]
  ·have g1:¬ (a:Int)=x:=by omega
   have g2:¬ (b:Int)=x:=by omega
   simp [e1,e2,g1,g2]
theorem joined_set (he:EndsIn n es) {a b:Nat} (h:Rch (pAdj es p) a b):∃ Y:Nat→Bool,(∀ j,Y j=true→p j=true∧j<es.length)∧∀ x:Nat,degB es Y x%2=((if x=a then 1 else 0)+(if x=b then 1 else 0))%2:=by
 induction h with
 | refl=>
  refine ⟨fun _=>false,⟨fun j h=>absurd h (by simp),fun x=>?_⟩⟩
  have h1:degB es (fun _=>false) (x:Int)=0:=by rw [degB_cn];exact cn_zero fun j hj=>by simp
  rw [h1];split <;> rfl
 | @step x y _ h2 ih=>
  obtain ⟨Y,y1,y2⟩:=ih
  obtain ⟨j,j1,j2,j3⟩:=h2
  refine ⟨fun i=>Y i ^^ decide (i=j),fun i hi=>?_,fun z=>?_⟩
  ·by_cases e:i=j
   ·subst e;exact ⟨j2,j1⟩
   ·simp [e] at hi;exact y1 i hi
  ·rw [deg_xor]
   have hxy:x≠y:=by
    rintro rfl
    obtain ⟨c,d,hcd,hne,_⟩:=he.get j j1
    rw [hcd] at j3
    rcases j3 with h|h <;> (simp only [Prod.mk.injEq] at h;omega)
   have h1:=y2 z
   have h3:degB es (fun i=>decide (i=j)) z=(if z=x then 1 else 0)+(if z=y then 1 else 0):=by
    rcases j3 with j3|j3
    ·exact deg_one j1 j3 hxy z
    ·rw [deg_one j1 j3 hxy.symm z];omega
   rw [h3]
   omega
end Go.Proofs
namespace Go.Proofs
open Go.Abs

variable {es fs gs:List (Int × Int)} {l:List Int} {n:Int}

end Go.Proofs
namespace Go.Proofs
open Go.Abs

variable {es fs gs:List (Int × Int)} {l D:List Int} {n:Int} {p:Nat→Bool}

end Go.Proofs
namespace Go.Proofs
open Go.Abs

variable {H G:AHeap} {v u f:Value} {l m c D:List Int} {es fs:List (Int × Int)} {K:Value→AHeap→Prop} {n:Int}

end Go.Proofs
namespace Go.Proofs
open Go.Abs

variable {H G:AHeap} {v u f:Value} {l m c D:List Int} {es fs:List (Int × Int)} {K:Value→AHeap→Prop} {n:Int}

end Go.Proofs
namespace Go.Proofs
open Go.Abs

variable {H G:AHeap} {v u f:Value} {l m c D:List Int} {es fs:List (Int × Int)} {K:Value→AHeap→Prop} {n:Int}

end Go.Proofs
namespace Go.Proofs
open Go.Abs

variable {H G:AHeap} {v u f:Value} {l m c:List Int} {es fs:List (Int × Int)} {K:Value→AHeap→Prop} {A:Nat→Prop} {B:Nat} {ls:List (List Int)}

theorem comp_filter {es:List (Int × Int)} {p:Nat→Bool} {l:List Int} (hl:l=filtB p es.length) {e:Nat} (he:e<es.length∧p e=true):l.filter (fun y=>rchB (eAdj es p) e y.toNat)=compL es p e:=by
 have hasc:Asc l:=by rw [hl];exact filtB_asc _ _
 refine Asc.ext (List.Pairwise.filter _ hasc) (compL_asc e) fun x=>?_
 rw [List.mem_filter,mem_compL]
 constructor
 ·rintro ⟨h1,h2⟩
  rw [hl] at h1
  obtain ⟨j,rfl,h3,_⟩:=mem_filtB.1 h1
  exact ⟨j,rfl,h3,rchB_iff.1 h2⟩
 ·rintro ⟨j,rfl,h1,h2⟩
  refine ⟨?_,rchB_iff.2 h2⟩
  rw [hl]
  exact mem_filtB.2 ⟨j,rfl,h1,(eRch_in h2 he).2⟩
theorem part_take {es:List (Int × Int)} {p:Nat→Bool} {l:List Int} (hl:l=filtB p es.length) {t e:Nat} (ht:t<l.length) (he:l[t]=(e:Int)) (hlead:cLeadB es p e=true):(l.take t).filter (fun y=>rchB (eAdj es p) e y.toNat)=[]:=by
 have hasc:Asc l:=by rw [hl];exact filtB_asc _ _
 have hm:∀ x,x∈l↔∃ j:Nat,x=j∧j<es.length∧p j=true:=fun x=>by rw [hl];exact mem_filtB
 rw [List.filter_eq_nil_iff]
 intro y hy hr
 rw [asc_take hasc ht] at hy
 obtain ⟨j,rfl,h1,h2⟩:=(hm y).1 hy.1
 obtain ⟨e',h3,h4,h5⟩:=(hm _).1 (List.getElem_mem ht)
 obtain rfl:e=e':=by omega
 exact cLeadB_iff.1 hlead j (by omega) h2 (eRch_symm (rchB_iff.1 hr) ⟨h4,h5⟩)
theorem filt_take {q:Int→Bool} {l:List Int} {k:Nat} (h:k<l.length):(l.take (k+1)).filter q=(l.take k).filter q++if q l[k] then [l[k]] else []:=by
 rw [List.take_succ_eq_append_getElem h,List.filter_append]
 congr 1
 cases hq:q l[k] <;> simp [hq]
theorem l07CyclesG_ok {n:Int} (h:Edges H v es) (n0:0<n) (n1:n≤1000) (h30:es.length≤2000) (hend:∀ e,e<es.length→0≤(es.getD e (0,0)).1∧(es.getD e (0,0)).1<n∧0≤(es.getD e (0,0)).2∧(es.getD e (0,0)).2<n) (hc:Ints H u l) (hs:IsS l es.length)
 (k:∀ v' G,H.le G→RowsF (fun b=>H.length≤b) G.length G v' (cycOf es (bitB l) l)→K v' G):AC Tryz.prog T0 51 [.agg ⟨[.int .i64 n,v]⟩,u] H K:=by
 have hll:=hs.short
 have hsr:∀ x∈l,0≤x∧x<es.length:=hs.range
 obtain ⟨p,hp⟩:∃ p,p=bitB l:=⟨_,rfl⟩
 have hl:=hs.filt
 rw [← hp] at hl k
 have hmem:∀ x,x∈l↔∃ j:Nat,x=j∧j<es.length∧p j=true:=fun x=>by rw [hl];exact mem_filtB
 have hat:∀ i (hi:i<l.length),∃ e:Nat,l[i]=(e:Int)∧e<es.length∧p e=true:=fun i hi=>(hmem _).1 (List.getElem_mem hi)
 apply F51.ac
 unfold F51.B23
 refine newK_f (all_iv (edges_one' h)) fun H1 l1 n1' o1=>?_
 unfold F51.B22
 refine newK_f rfl fun H2 l2 n2 o2=>?_
 unfold F51.B21 F51.L17
 refine ⟨fun x1 x2 x5 x6 G=>u=x1∧H.length=x2∧H1.le G∧∃ i:Nat,x6=i∧i≤l.length∧Fresh H1.length G x5 66 2 (LE (keptL es (l.take i))),fun _ _ _ x6 _=>l.length-x6.toNat,⟨rfl,rfl,l2,0,rfl,by omega,.inr ⟨_,0,Nat.le_refl _,rfl,o2,rfl⟩⟩,?_⟩
 rintro x1 x2 x5 x6 Gk ⟨rfl,rfl,hGk,i,rfl,hi,hF⟩
 have lGk:=AHeap.le_trans l1 hGk
 have oGk:=o1.le hGk
 unfold F51.B20
 refine (hc.le lGk).len (pif_cases (fun hb=>?_) fun hb=>?_)
 ·have hlt:i<l.length:=by have:=of_decide_eq_true hb;omega
  have hx:=hsr l[i] (List.getElem_mem hlt)
  unfold F51.B19
  refine ld1_own oGk rfl ((hc.le lGk).rd (by omega) (by omega) ?_)
  rw [Int.toNat_natCast,getD_of hlt]
  obtain ⟨b,o,hk,c1,c2⟩:=(h.le lGk).idx hx.1 hx.2
  refine hk _ (ldI_mk c1 (ldI_mk c2 ?_))
  refine hF.sl.pushN E_edge (by decide) hGk.1 (n:=1) (ys:=[.int .i64 (es.getD (l[i]).toNat (0,0)).1,.int .i64 (es.getD (l[i]).toNat (0,0)).2]) rfl rfl (by rw [LE_length];unfold keptL;simp;omega) (by simp) fun v' G2 k2 _ _ f2=>?_
  unfold F51.B18
  rw [wrap_id (by omega) (by omega)]
  refine ⟨⟨rfl,rfl,k2.le hGk (Nat.le_refl _),i+1,by omega,by omega,?_⟩,by simp;omega⟩
  rw [kept_get hlt,LE_append];exact f2
 ·have hge:i=l.length:=by have:=of_decide_eq_false hb;omega
  subst hge
  rw [List.take_length] at hF
  have hK:Edges Gk x5 (keptL es l):=hF.edges
  have hKl:(keptL es l).length=l.length:=by unfold keptL;simp
  have hKg:∀ i (hi:i<l.length),(keptL es l).getD i (0,0)=es.getD (l[i]).toNat (0,0):=fun i hi=>by unfold keptL;simp [List.getD,hi]
  have hKf:∀ e∈keptL es l,0≤e.1∧e.1<n∧0≤e.2∧e.2<n:=by
   intro e he
   unfold keptL at he
   obtain ⟨x,hx,rfl⟩:=List.mem_map.1 he
   exact hend _ (by have:=hsr x hx;omega)
  have fin:∀ (G:AHeap) (D:List Int) (bl bm bo:Nat),Gk.le G→Own G bl 2 (LI D)→Own G bm 4 (LB (List.replicate l.length false))→Own G bo 27 []→Gk.length≤bl→Gk.length≤bm→Gk.length≤bo→bl≠bm→bo≠bm→bo≠bl→Leads n.toNat (keptL es l) D→
   F51.B15 K u x5 (.slice (some ⟨bl,0,none⟩) n.toNat (n.toNat+1)) (.slice (some ⟨bm,0,none⟩) l.length (l.length+1)) (.slice (some ⟨bo,0,none⟩) 0 (0+1)) G:=by
   intro G0 D bl bm bo hG0 oD oM oO hbl hbm hbo e1 e2 e3 hD
   have same:∀ i j (hi:i<l.length) (hj:j<l.length),(D.getD (es.getD (l[i]).toNat (0,0)).1.toNat 0==D.getD (es.getD (l[j]).toNat (0,0)).1.toNat 0)=rchB (eAdj es p) (l[j]).toNat (l[i]).toNat:=by
    intro i j hi hj
    obtain ⟨a,ha,ha1,ha2⟩:=hat i hi
    obtain ⟨b,hb,hb1,hb2⟩:=hat j hj
    rw [ha,hb,Int.toNat_natCast,Int.toNat_natCast]
    have da:=hend a ha1;have db:=hend b hb1
    have hi:=hD.iff (a:=(es.getD b (0,0)).1.toNat) (b:=(es.getD a (0,0)).1.toNat) (by omega) (by omega)
    have hpart:=part_iff (es:=es) (p:=p) (fun e he=>by
     obtain ⟨j,hj,rfl⟩:=List.getElem_of_mem he
     have:=hend j hj
     rw [getD_of hj] at this;omega) ⟨hb1,hb2⟩ ⟨ha1,ha2⟩
    rw [← hl] at hpart
    rw [Bool.eq_iff_iff,beq_iff_eq,rchB_iff,← hpart,← hi]
    exact eq_comm
   unfold F51.B15 F51.L2
   obtain ⟨A,hA⟩:∃ A:Nat→Prop,A=fun b=>Gk.length≤b∧b≠bm∧b≠bl:=⟨_,rfl⟩
   have hnew:∀ {G:AHeap} {b:Nat},Own G bm 4 (LB (List.replicate l.length false))∨True→Gk.length≤b→b≠bm→b≠bl→A b:=fun _ h1 h2 h3=>by rw [hA];exact ⟨h1,h2,h3⟩
   refine ⟨fun x1 x5' x7 x8 x9 x10 G=>u=x1∧x5=x5'∧.slice (some ⟨bl,0,none⟩) n.toNat (n.toNat+1)=x7∧.slice (some ⟨bm,0,none⟩) l.length (l.length+1)=x8∧Gk.le G∧Own G bl 2 (LI D)∧∃ (t:Nat) (M:List Bool),x10=t∧t≤l.length∧M.length=l.length∧Own G bm 4 (LB M)∧RowsF A G.length G x9 (cycOf es p (l.take t))∧
    ∀ i (hi:i<l.length),M.getD i false=true↔∃ y∈l.take t,cLeadB es p y.toNat=true∧Rch (eAdj es p) y.toNat (l[i]).toNat,
    fun _ _ _ _ _ x10 _=>l.length-x10.toNat,⟨rfl,rfl,rfl,rfl,hG0,oD,0,_,rfl,by omega,by simp,oM,.nil1 oO (hnew (G:=G0) (.inr trivial) hbo e2 e3) oO.lt,fun i hi=>?_⟩,?_⟩
   ·have:(List.replicate l.length false).getD i false=false:=by simp [List.getD,hi]
    rw [this];simp
   clear oM oO hG0 oD
   rintro x1 x5' x7 x8 x9 x10 G1 ⟨rfl,rfl,rfl,rfl,hG1,oD,t,M,rfl,ht,hM,oM,hR,hm⟩
   have lG1:=AHeap.le_trans lGk hG1
   unfold F51.B14
   refine (hc.le lG1).len (pif_cases (fun hb=>?_) fun hb=>?_)
   ·have htl:t<l.length:=by have:=of_decide_eq_true hb;omega
    obtain ⟨e,he1,he2,he3⟩:=hat t htl
    have hmet:=met_iff (n:=0) hl htl
    rw [← hm t htl] at hmet
    rw [he1,Int.toNat_natCast] at hmet
    unfold F51.B13
    refine own_idx (by omega) (by omega) (ld1_own oM (by rw [Int.toNat_natCast];exact LB_get (by omega)) (asB_mk (pif_cases (fun hs'=>?_) fun hs'=>?_)))
    ·have hnl:=hmet.1 hs'
     unfold F51.B3
     rw [wrap_id (by omega) (by omega)]
     refine ⟨⟨rfl,rfl,rfl,rfl,hG1,oD,t+1,M,by omega,by omega,hM,oM,?_,fun i hi=>?_⟩,by simp;omega⟩
     ·rw [cycOf_take htl,he1,Int.toNat_natCast,hnl];simpa using hR
     ·rw [hm i hi,List.take_succ_eq_append_getElem htl]
      constructor
      ·rintro ⟨y,h1,h2⟩;exact ⟨y,List.mem_append.2 (.inl h1),h2⟩
      ·rintro ⟨y,h1,h2⟩
       rcases List.mem_append.1 h1 with h1|h1
       ·exact ⟨y,h1,h2⟩
       ·rw [List.mem_singleton] at h1
        rw [h1,he1,Int.toNat_natCast,hnl] at h2
        cases h2.1
    ·have hlead:cLeadB es p e=true:=by
      cases hle:cLeadB es p e with
      | true=>rfl
      | false=>rw [hmet.2 hle] at hs';cases hs'
     unfold F51.B12
     refine newK_f rfl fun H3 l3 n3 o3=>?_
     have hb3:=oM.lt;have hb4:=oD.lt
     unfold F51.B11 F51.L5
     refine ⟨fun x1 x5' x7 x8 x9' x10 x11 x12 G=>u=x1∧x5=x5'∧.slice (some ⟨bl,0,none⟩) n.toNat (n.toNat+1)=x7∧.slice (some ⟨bm,0,none⟩) l.length (l.length+1)=x8∧x9=x9'∧(t:Int)=x10∧Gk.le G∧G1.length≤G.length∧Own G bl 2 (LI D)∧∃ (i:Nat) (M:List Bool),x12=i∧t≤i∧i≤l.length∧M.length=l.length∧Own G bm 4 (LB M)∧RowsF A G1.length G x9 (cycOf es p (l.take t))∧
      Fresh G1.length G x11 2 1 (LI ((l.take i).filter (fun y=>rchB (eAdj es p) e y.toNat)))∧∀ j (hj:j<l.length),M.getD j false=true↔(∃ y∈l.take t,cLeadB es p y.toNat=true∧Rch (eAdj es p) y.toNat (l[j]).toNat)∨(t≤j∧j<i∧Rch (eAdj es p) e (l[j]).toNat),
      fun _ _ _ _ _ _ _ x12 _=>l.length-x12.toNat,⟨rfl,rfl,rfl,rfl,rfl,rfl,AHeap.le_trans hG1 l3,l3.1,oD.le l3,t,M,rfl,Nat.le_refl _,by omega,hM,oM.le l3,hR.le l3,?_,fun j hj=>?_⟩,?_⟩
     ·rw [part_take hl htl he1 hlead]
      exact .inr ⟨_,0,Nat.le_refl _,rfl,o3,rfl⟩
     ·rw [hm j hj]
      exact ⟨.inl,fun h=>h.elim id fun h=>absurd h.2.1 (by omega)⟩
     clear hm hM oM oD hs' hmet
     rintro x1 x5' x7 x8 x9' x10 x11 x12 G4 ⟨rfl,rfl,rfl,rfl,rfl,rfl,hG4,hlen4,oD,i,M,rfl,hti,hi,hM,oM,hR,hF4,hm⟩
     have lG4:=AHeap.le_trans lGk hG4
     unfold F51.B10
     refine (hc.le lG4).len (pif_cases (fun hb=>?_) fun hb=>?_)
     ·have hil:i<l.length:=by have:=of_decide_eq_true hb;omega
      have hDi:=own_ints (c:=n.toNat+1) oD
      rw [hD.led.1] at hDi
      obtain ⟨e',hf1,hf2,hf3⟩:=hat i hil
      have da:=hend e' hf2;have db:=hend e he2
      have hr:rchB (eAdj es p) e (l[i]).toNat=(D.getD (es.getD e' (0,0)).1.toNat 0==D.getD (es.getD e (0,0)).1.toNat 0):=by
       have:=same i t hil htl
       rw [he1,hf1,Int.toNat_natCast,Int.toNat_natCast] at this
       rw [hf1,Int.toNat_natCast,this]
      unfold F51.B9
      obtain ⟨b,o,hk,c1,c2⟩:=(hK.le hG4).idx (i:=(i:Int)) (by omega) (by omega)
      obtain ⟨b',o',hk',c1',c2'⟩:=(hK.le hG4).idx (i:=(t:Int)) (by omega) (by omega)
      rw [Int.toNat_natCast,hKg i hil,hf1,Int.toNat_natCast] at c1
      rw [Int.toNat_natCast,hKg t htl,he1,Int.toNat_natCast] at c1'
      refine hk _ (ldI_mk c1 (hDi.rd (by omega) (by rw [hD.led.1];omega) (hk' _ (ldI_mk c1' (hDi.rd (by omega) (by rw [hD.led.1];omega) ?_)))))
      rw [← hr]
      refine pif_cases (fun hs'=>?_) fun hs'=>?_
      ·unfold F51.B8
       refine own_idx (by omega) (by omega) (stK_1 oM (by simp;omega) rfl fun G5 b5 o5=>?_)
       rw [Int.toNat_natCast,← List.map_set] at o5
       have hG5:=b5.le hG4 hbm
       have hx:=hsr l[i] (List.getElem_mem hil)
       unfold F51.B7
       refine (hc.le (AHeap.le_trans lGk hG5)).rd (by omega) (by omega) ?_
       rw [Int.toNat_natCast,getD_of hil]
       refine (hF4.but b5 hb3).sl.pushN E_int (by decide) (by have:=b5.len;omega) (n:=1) (ys:=[.int .i64 l[i]]) rfl rfl (by have:((l.take i).filter (fun y=>rchB (eAdj es p) e y.toNat)).length≤i:=Nat.le_trans (List.length_filter_le _ _) (by rw [List.length_take];omega);simp only [List.length_map,List.length_singleton];omega) (by simp) fun v' G6 k6 ot6 nb6 f6=>?_
       unfold F51.B6
       rw [wrap_id (by omega) (by omega)]
       refine ⟨⟨rfl,rfl,rfl,rfl,rfl,rfl,k6.le hG5 hG1.1,by have:=k6.len;have:=b5.len;omega,k6.own (b5.own oD e1) hb4,i+1,M.set i true,by omega,by omega,by omega,by simpa using hM,k6.own o5 hb3,(hR.but b5 (fun h=>by rw [hA] at h;exact h.2.1 rfl)).keep k6,?_,fun j hj=>?_⟩,by simp;omega⟩
       ·rw [filt_take hil,if_pos hs'];simpa using f6
       ·have hmj:=hm j hj
        by_cases ej:i=j
        ·subst ej
         have:(M.set i true).getD i false=true:=by simp [List.getD,show i<M.length by omega]
         rw [this]
         exact ⟨fun _=>.inr ⟨hti,by omega,rchB_iff.1 hs'⟩,fun _=>rfl⟩
        ·have:(M.set i true).getD j false=M.getD j false:=by simp [List.getD,List.getElem?_set,ej]
         rw [this,hmj]
         constructor
         ·rintro (h|⟨h1,h2,h3⟩)
          ·exact .inl h
          ·exact .inr ⟨h1,by omega,h3⟩
         ·rintro (h|⟨h1,h2,h3⟩)
          ·exact .inl h
          ·exact .inr ⟨h1,by omega,h3⟩
      ·unfold F51.B6
       rw [wrap_id (by omega) (by omega)]
       refine ⟨⟨rfl,rfl,rfl,rfl,rfl,rfl,hG4,hlen4,oD,i+1,M,by omega,by omega,by omega,hM,oM,hR,?_,fun j hj=>?_⟩,by simp;omega⟩
       ·rw [filt_take hil,if_neg (by rw [hs'];decide),List.append_nil];exact hF4
       ·rw [hm j hj]
        constructor
        ·rintro (h|⟨h1,h2,h3⟩)
         ·exact .inl h
         ·exact .inr ⟨h1,by omega,h3⟩
        ·rintro (h|⟨h1,h2,h3⟩)
         ·exact .inl h
         ·by_cases ej:j=i
          ·subst ej
           rw [rchB_iff.2 h3] at hs';cases hs'
          ·exact .inr ⟨h1,by omega,h3⟩
     ·have hge:i=l.length:=by have:=of_decide_eq_false hb;omega
      subst hge
      rw [List.take_length,comp_filter hl ⟨he2,he3⟩] at hF4
      have hcl:(cycOf es p (l.take t)).length≤2000:=by
       unfold cycOf;rw [List.length_map]
       exact Nat.le_trans (List.length_filter_le _ _) (by rw [List.length_take];omega)
      unfold F51.B4
      refine hR.push hlen4 (fun b hb=>hnew (G:=G4) (.inr trivial) (by have:=hG1.1;omega) (by omega) (by omega)) hF4 (by omega) fun v' G7 ot7 nb7 len7 hR7=>?_
      have k7:∀ b o,(Gk.length≤b→¬ A b)→G4[b]?=some (some o)→G7[b]?=some (some o):=by
       intro b o hb ho
       refine ot7 b o (fun hv=>?_) ho
       obtain ⟨vs,_,_,q3,_⟩:=hR
       have:=(q3 b hv).1
       exact hb (by rw [hA] at this;exact this.1) this
      unfold F51.B3
      rw [wrap_id (by omega) (by omega)]
      refine ⟨⟨rfl,rfl,rfl,rfl,⟨by have:=hG4.1;omega,fun b o ho=>k7 b o (fun hb=>by have:=lt_of_get ho;omega) (hG4.2 b o ho)⟩,k7 bl _ (fun _ h=>by rw [hA] at h;exact h.2.2 rfl) oD,t+1,M,by omega,by omega,hM,k7 bm _ (fun _ h=>by rw [hA] at h;exact h.2.1 rfl) oM,?_,fun j hj=>?_⟩,by simp;omega⟩
      ·rw [cycOf_take htl,he1,Int.toNat_natCast,hlead];exact hR7
      ·rw [hm j hj,List.take_succ_eq_append_getElem htl]
       constructor
       ·rintro (⟨y,h1,h2⟩|⟨h1,h2,h3⟩)
        ·exact ⟨y,List.mem_append.2 (.inl h1),h2⟩
        ·exact ⟨l[t],List.mem_append.2 (.inr (by simp)),by rw [he1];exact hlead,by rw [he1];exact h3⟩
       ·rintro ⟨y,h1,h2,h3⟩
        rcases List.mem_append.1 h1 with h1|h1
        ·exact .inl ⟨y,h1,h2,h3⟩
        ·rw [List.mem_singleton] at h1
         rw [h1,he1,Int.toNat_natCast] at h3
         refine .inr ⟨?_,hj,h3⟩
         rcases Nat.lt_or_ge j t with hjt|hjt
         ·have hin:l[j]∈(l.take t).filter (fun y=>rchB (eAdj es p) e y.toNat):=by
           rw [List.mem_filter]
           refine ⟨?_,rchB_iff.2 h3⟩
           have:(l.take t)[j]'(by simp;omega)=l[j]:=List.getElem_take ..
           rw [← this];exact List.getElem_mem _
          rw [part_take hl htl he1 hlead] at hin
          cases hin
         ·exact hjt
   ·have hge:t=l.length:=by have:=of_decide_eq_false hb;omega
    subst hge
    rw [List.take_length] at hR
    unfold F51.B1
    exact k _ _ lG1 (hR.mono (fun b hb=>by rw [hA] at hb;have:=lGk.1;omega) (Nat.le_refl _))
  clear hb hi
  unfold F51.B16
  refine ldI_own oGk rfl ((hc.le lGk).len ⟨?_,?_,?_⟩)
  ·refine l01LeadersG_ok hK (by omega) (by omega) n1 hKf fun bl D G2 l2 o2 hbl hD=>⟨?_,?_⟩
   ·refine mkR_int (by omega) (by omega) (by decide) fun G3 l3 n3 o3=>newK_f rfl fun G4 l4 n4 o4=>?_
    rw [Int.toNat_natCast,rep_b] at o3
    rw [Int.toNat_natCast]
    have:=o2.lt;have:=l2.1
    exact fin G4 D bl _ _ (AHeap.le_trans l2 (AHeap.le_trans l3 l4)) (o2.le (AHeap.le_trans l3 l4)) (o3.le l4) o4 hbl (by omega) (by omega) (by omega) (by omega) (by omega) hD
   ·refine newK_f rfl fun G3 l3 n3 o3=>mkR_int (by omega) (by omega) (by decide) fun G4 l4 n4 o4=>?_
    rw [Int.toNat_natCast,rep_b] at o4
    rw [Int.toNat_natCast]
    have:=o2.lt;have:=l2.1
    exact fin G4 D bl _ _ (AHeap.le_trans l2 (AHeap.le_trans l3 l4)) (o2.le (AHeap.le_trans l3 l4)) o4 (o3.le l4) hbl (by omega) (by omega) (by omega) (by omega) (by omega) hD
  ·refine mkR_int (by omega) (by omega) (by decide) fun G2 l2 n2 o2=>⟨?_,?_⟩
   ·refine l01LeadersG_ok (hK.le l2) (by omega) (by omega) n1 hKf fun bl D G3 l3 o3 hbl hD=>newK_f rfl fun G4 l4 n4 o4=>?_
    rw [Int.toNat_natCast,rep_b] at o2
    rw [Int.toNat_natCast]
    have:=o3.lt;have:=l3.1
    exact fin G4 D bl _ _ (AHeap.le_trans l2 (AHeap.le_trans l3 l4)) (o3.le l4) (o2.le (AHeap.le_trans l3 l4)) o4 (by omega) (by omega) (by omega) (by omega) (by omega) (by omega) hD
   ·refine newK_f rfl fun G3 l3 n3 o3=>l01LeadersG_ok (hK.le (AHeap.le_trans l2 l3)) (by omega) (by omega) n1 hKf fun bl D G4 l4 o4 hbl hD=>?_
    rw [Int.toNat_natCast,rep_b] at o2
    rw [Int.toNat_natCast]
    have:=o4.lt;have:=l4.1
    exact fin G4 D bl _ _ (AHeap.le_trans l2 (AHeap.le_trans l3 l4)) o4 (o2.le (AHeap.le_trans l3 l4)) (o3.le l4) (by omega) (by omega) (by omega) (by omega) (by omega) (by omega) hD
  ·refine newK_f rfl fun G2 l2 n2 o2=>⟨?_,?_⟩
   ·refine l01LeadersG_ok (hK.le l2) (by omega) (by omega) n1 hKf fun bl D G3 l3 o3 hbl hD=>mkR_int (by omega) (by omega) (by decide) fun G4 l4 n4 o4=>?_
    rw [Int.toNat_natCast,rep_b] at o4
    rw [Int.toNat_natCast]
    have:=o3.lt;have:=l3.1
    exact fin G4 D bl _ _ (AHeap.le_trans l2 (AHeap.le_trans l3 l4)) (o3.le l4) o4 (o2.le (AHeap.le_trans l3 l4)) (by omega) (by omega) (by omega) (by omega) (by omega) (by omega) hD
   ·refine mkR_int (by omega) (by omega) (by decide) fun G3 l3 n3 o3=>l01LeadersG_ok (hK.le (AHeap.le_trans l2 l3)) (by omega) (by omega) n1 hKf fun bl D G4 l4 o4 hbl hD=>?_
    rw [Int.toNat_natCast,rep_b] at o3
    rw [Int.toNat_natCast]
    have:=o4.lt;have:=l4.1
    exact fin G4 D bl _ _ (AHeap.le_trans l2 (AHeap.le_trans l3 l4)) o4 (o3.le l4) (o2.le (AHeap.le_trans l3 l4)) (by omega) (by omega) (by omega) (by omega) (by omega) (by omega) hD
theorem l07Cycles_ok {n:Int} (h:Edges H v es) (hg:IsG n es) (hc:Ints H u l) (hs:IsS l es.length)
 (k:∀ v' G,H.le G→RowsF (fun b=>H.length≤b) G.length G v' (cycOf es (bitB l) l)→K v' G):AC Tryz.prog T0 51 [.agg ⟨[.int .i64 n,v]⟩,u] H K:=
 l07CyclesG_ok h (by have:=hg.ed.lo;omega) (by have:=hg.ed.hi;omega) (by have:=hg.ed.len;have:=hg.ed.hi;omega) (fun e he=>by
  obtain ⟨d1,d2,d3,d4,d5⟩:=hg.ed.ends es[e] (List.getElem_mem he)
  rw [getD_of he];omega) hc hs k
end Go.Proofs
namespace Go.Proofs
open Go.Abs

variable {H G:AHeap} {v u f:Value} {l m c:List Int} {es fs:List (Int × Int)} {K:Value→AHeap→Prop} {A:Nat→Prop} {B:Nat} {ls:List (List Int)}

theorem set_bits {l:List Int} {n:Nat} (h:IsS l n):filtB (fun j=>(setN l).testBit j) n=l:=h.filt.symm
theorem set_lt {l:List Int} {n:Nat} (h:IsS l n) (hn:n≤64):setN l<2^64:=setN_lt fun x hx=>by have:=h.range x hx;omega
noncomputable def cyCode (n:Int) (es:List (Int × Int)) (l:List Int):Int:=if IsG n es then (if IsS l es.length then (if EvenS n es (bitB l) then 0 else 5) else 2) else 1
noncomputable def cyList (n:Int) (es:List (Int × Int)) (l:List Int):List (List Int):=if cyCode n es l=0 then cycOf es (bitB l) l else []
noncomputable def edCode (n:Int) (es:List (Int × Int)) (l:List Int):Int:=if IsG n es then (if IsS l es.length then 0 else 2) else 1
theorem edCode_zero {n:Int} (h:edCode n es l=0):IsG n es∧IsS l es.length:=by
 unfold edCode at h
 by_cases hg:IsG n es
 ·rw [if_pos hg] at h
  by_cases hs:IsS l es.length
  ·exact ⟨hg,hs⟩
  ·rw [if_neg hs] at h;cases h
 ·rw [if_neg hg] at h;cases h
theorem cyCode_ed {n:Int} (h:edCode n es l≠0):cyCode n es l=edCode n es l:=by
 unfold edCode at h;unfold cyCode edCode
 by_cases hg:IsG n es
 ·rw [if_pos hg] at h ⊢
  by_cases hs:IsS l es.length
  ·rw [if_pos hs] at h;exact absurd rfl h
  ·rw [if_neg hs,if_pos hg,if_neg hs]
 ·rw [if_neg hg,if_neg hg]
theorem cyCode_in {n:Int} (h:edCode n es l=0):cyCode n es l=if EvenS n es (bitB l) then 0 else 5:=by
 obtain ⟨hg,hs⟩:=edCode_zero h
 unfold cyCode;rw [if_pos hg,if_pos hs]
theorem specCycles_ok {n:Int} (h:Edges H v es) (hl:es.length≤1048576) (hc:Ints H u l) (hcl:l.length≤1048576)
 (k:∀ v' G,H.le G→RowsF (fun b=>H.length≤b) G.length G v' (cyList n es l)→K (.tuple ⟨[v',.int .i64 (cyCode n es l)]⟩) G):AC Tryz.prog T0 8 [.agg ⟨[.int .i64 n,v]⟩,u] H K:=by
 apply F8.ac
 unfold F8.B7
 refine newK_f (all_iv (edges_one' h)) fun H1 l1 n1 o1=>?_
 unfold F8.B6
 refine ldI_own o1 rfl (ld1_own o1 rfl (l03Edges_ok (h.le l1) hl (hc.le l1) hcl fun H2 l2=>asI_mk ?_))
 have l12:=AHeap.le_trans l1 l2
 rw [show (if IsG n es then (if IsS l es.length then 0 else 2) else 1:Int)=edCode n es l from rfl]
 unfold F8.B5
 refine pif_cases (fun hs=>?_) fun hs=>?_
 ·have hne:=bne_iff_ne.1 hs
  unfold F8.B4
  have k:=k (.slice none 0 0) H2 l12 (by rw [cyList,if_neg (by rw [cyCode_ed hne];exact hne)];exact .nil)
  rw [cyCode_ed hne] at k;exact k
 ·have h0:edCode n es l=0:=bne_eq_false_iff_eq.1 hs
  obtain ⟨hg,hS⟩:=edCode_zero h0
  have hcode:=cyCode_in h0
  unfold F8.B3
  refine ldI_own (o1.le l2) rfl (ld1_own (o1.le l2) rfl (l07Even_ok (h.le l12) hg (hc.le l12) hS fun H3 l3=>asB_mk ?_))
  have l13:=AHeap.le_trans l12 l3
  refine pif_cases (fun hb=>?_) fun hb=>?_
  ·rw [Bool.not_eq_true'] at hb
   rw [if_neg (of_decide_eq_false hb)] at hcode
   unfold F8.B2
   have k:=k (.slice none 0 0) H3 l13 (by rw [cyList,if_neg (by rw [hcode];decide)];exact .nil)
   rw [hcode] at k;exact k
  ·rw [Bool.not_eq_false'] at hb
   rw [if_pos (of_decide_eq_true hb)] at hcode
   unfold F8.B1
   refine ldI_own ((o1.le l2).le l3) rfl (ld1_own ((o1.le l2).le l3) rfl (l07Cycles_ok (h.le l13) hg (hc.le l13) hS fun v' H4 l4 hR=>?_))
   have k:=k v' H4 (AHeap.le_trans l13 l4) (by rw [cyList,if_pos hcode];exact hR.mono (fun b hb=>Nat.le_trans l13.1 hb) (Nat.le_refl _))
   rw [hcode] at k;exact k
theorem implCycles_ok {n:Int} (h:Edges H v es) (hl:es.length≤1048576) (hc:Ints H u l) (hcl:l.length≤1048576)
 (k:∀ v' G,H.le G→RowsF (fun b=>H.length≤b) G.length G v' (cyList n es l)→K (.tuple ⟨[v',.int .i64 (cyCode n es l)]⟩) G):AC Tryz.prog T0 7 [.agg ⟨[.int .i64 n,v]⟩,u] H K:=by
 apply F7.ac
 unfold F7.B7
 refine newK_f (all_iv (edges_one' h)) fun H1 l1 n1 o1=>?_
 unfold F7.B6
 refine ldI_own o1 rfl (ld1_own o1 rfl (edgesCode_ok (h.le l1) hl (hc.le l1) hcl fun H2 l2=>asI_mk ?_))
 have l12:=AHeap.le_trans l1 l2
 rw [show (if IsG n es then (if IsS l es.length then 0 else 2) else 1:Int)=edCode n es l from rfl]
 unfold F7.B5
 refine pif_cases (fun hs=>?_) fun hs=>?_
 ·have hne:=bne_iff_ne.1 hs
  unfold F7.B4
  have k:=k (.slice none 0 0) H2 l12 (by rw [cyList,if_neg (by rw [cyCode_ed hne];exact hne)];exact .nil)
  rw [cyCode_ed hne] at k;exact k
 ·have h0:edCode n es l=0:=bne_eq_false_iff_eq.1 hs
  obtain ⟨hg,hS⟩:=edCode_zero h0
  have hcode:=cyCode_in h0
  have h30:es.length≤30:=by have:=hg.ed.len;have:=hg.ed.hi;omega
  have hsl:=set_lt hS (by omega)
  have hll:=hS.short
  have hrr:∀ x∈l,0≤x∧x<64:=fun x hx=>by have:=hS.range x hx;omega
  unfold F7.B3
  refine ldI_own (o1.le l2) rfl (ld1_own (o1.le l2) rfl (setOf_ok (hc.le l12) (by omega) hrr (asI_mk ⟨AHeap.le_refl _,isEven_ok (h.le l12) hg hsl fun H3 l3=>asB_mk ?_⟩)))
  have l13:=AHeap.le_trans l12 l3
  rw [show (fun j=>(setN l).testBit j)=bitB l from rfl]
  refine pif_cases (fun hb=>?_) fun hb=>?_
  ·rw [Bool.not_eq_true'] at hb
   rw [if_neg (of_decide_eq_false hb)] at hcode
   unfold F7.B2
   have k:=k (.slice none 0 0) H3 l13 (by rw [cyList,if_neg (by rw [hcode];decide)];exact .nil)
   rw [hcode] at k;exact k
  ·rw [Bool.not_eq_false'] at hb
   rw [if_pos (of_decide_eq_true hb)] at hcode
   unfold F7.B1
   refine ldI_own ((o1.le l2).le l3) rfl (ld1_own ((o1.le l2).le l3) rfl (setOf_ok (hc.le l13) (by omega) hrr (asI_mk ⟨AHeap.le_refl _,cycles_ok (h.le l13) hg hsl (fun j hj=>bitB_lt hS hj) fun w H4 l4 f4=>?_⟩)))
   rw [set_bits hS,show (fun j=>(setN l).testBit j)=bitB l from rfl] at f4
   have hzb:∀ z∈cycN es (bitB l) l,z<2^64:=by
    intro z hz
    unfold cycN at hz
    obtain ⟨y,_,rfl⟩:=List.mem_map.1 hz
    exact compN_lt (by omega)
   refine lists_ok f4.sl (by have:(cycN es (bitB l) l).length≤l.length:=(by unfold cycN;rw [List.length_map];exact List.length_filter_le _ _);omega) hzb fun v' H5 l5 hR=>?_
   rw [cycN_lists (by omega)] at hR
   have l14:=AHeap.le_trans l13 l4
   have k:=k v' H5 (AHeap.le_trans l14 l5) (by rw [cyList,if_pos hcode];exact hR.mono (fun b hb=>Nat.le_trans l14.1 hb) (Nat.le_refl _))
   rw [hcode] at k;exact k
theorem tot_small:∀ {ls:List (List Int)},(∀ l∈ls,l.length≤1000)→totL ls≤ls.length*1000
 | [],_=>Nat.le_refl _
 | l::ls,h=>by
  have h1:=tot_small (ls:=ls) fun x hx=>h x (by simp [hx])
  have h2:=h l (by simp)
  simp [totL] at h1 ⊢;omega
noncomputable def cycB (n:Int) (es:List (Int × Int)) (l:List Int):Bool:=decide (EvenS n es (bitB l))&&(((cycOf es (bitB l) l).length:Int)==1)
noncomputable def icB (n:Int) (es:List (Int × Int)) (l:List Int):Bool:=if edCode n es l=0 then cycB n es l else false
theorem l07Cycle_ok {n:Int} (h:Edges H v es) (hg:IsG n es) (hc:Ints H u l) (hs:IsS l es.length) (k:∀ G,H.le G→K (.bool (cycB n es l)) G):AC Tryz.prog T0 76 [.agg ⟨[.int .i64 n,v]⟩,u] H K:=by
 apply F76.ac
 unfold F76.B2
 refine newK_f (all_iv (edges_one' h)) fun H1 l1 n1 o1=>?_
 unfold F76.B1
 unfold cycB at k
 refine (hc.le l1).len (pif_cases (fun hb=>?_) fun hb=>?_)
 ·refine ldI_own o1 rfl (ld1_own o1 rfl (l07Even_ok (h.le l1) hg (hc.le l1) hs fun H2 l2=>asB_mk (pif_cases (fun he=>?_) fun he=>?_)))
  ·have l12:=AHeap.le_trans l1 l2
   refine ldI_own (o1.le l2) rfl (ld1_own (o1.le l2) rfl (l07Cycles_ok (h.le l12) hg (hc.le l12) hs fun v' H3 l3 hR=>hR.len ?_))
   have k:=k _ (AHeap.le_trans l12 l3)
   rw [he,Bool.true_and] at k;exact k
  ·have k:=k _ (AHeap.le_trans l1 l2)
   rw [he,Bool.false_and] at k;exact k
 ·have hl0:l=[]:=List.length_eq_zero_iff.1 (by have:=of_decide_eq_false hb;omega)
  have k:=k _ l1
  have e0:(cycOf es (bitB l) l).length=0:=by rw [hl0];rfl
  rw [e0] at k
  simpa using k
theorem isCycle_ok {n:Int} (h:Edges H v es) (hg:IsG n es) (hs:IsS l es.length) (k:∀ G,H.le G→K (.bool (cycB n es l)) G):AC Tryz.prog T0 52 [.agg ⟨[.int .i64 n,v]⟩,.int .u64 (setN l:Nat)] H K:=by
 have h30:es.length≤30:=by have:=hg.ed.len;have:=hg.ed.hi;omega
 have hsl:=set_lt hs (by omega)
 apply F52.ac
 unfold F52.B2
 refine newK_f (all_iv (edges_one' h)) fun H1 l1 n1 o1=>?_
 unfold F52.B1
 unfold cycB at k
 refine ldI_own o1 rfl (ld1_own o1 rfl (isEven_ok (h.le l1) hg hsl fun H2 l2=>asB_mk ?_))
 rw [show (fun j=>(setN l).testBit j)=bitB l from rfl]
 refine pif_cases (fun he=>?_) fun he=>?_
 ·have l12:=AHeap.le_trans l1 l2
  refine ldI_own (o1.le l2) rfl (ld1_own (o1.le l2) rfl (cycles_ok (h.le l12) hg hsl (fun j hj=>bitB_lt hs hj) fun w H4 l4 f4=>?_))
  rw [set_bits hs,show (fun j=>(setN l).testBit j)=bitB l from rfl] at f4
  refine f4.sl.len (by decide) (n:=(cycOf es (bitB l) l).length) (by unfold cycN cycOf;simp) ?_
  have k:=k _ (AHeap.le_trans l12 l4)
  rw [he,Bool.true_and] at k;exact k
 ·have k:=k _ (AHeap.le_trans l1 l2)
  rw [he,Bool.false_and] at k;exact k
end Go.Proofs
namespace Go.Proofs
open Go.Abs

variable {H G:AHeap} {v u f:Value} {l m c:List Int} {es fs:List (Int × Int)} {K:Value→AHeap→Prop}

end Go.Proofs
namespace Go.Proofs
open Go.Abs

variable {es fs:List (Int × Int)} {l:List Int} {n:Int}

end Go.Proofs
namespace Go.Proofs
open Go.Abs

variable {H G:AHeap} {v u f:Value} {l m c D:List Int} {es fs:List (Int × Int)} {K:Value→AHeap→Prop} {n:Int}

end Go.Proofs
namespace Go.Proofs
open Go.Abs

variable {H G G' Hb H0:AHeap} {v u f w:Value} {l m D:List Int} {es fs:List (Int × Int)} {K:Value→AHeap→Prop} {bs:Nat} {n:Int}

theorem Kb.keep (h:Kb bs H G) (k:Keep H.length G G'):Kb bs H G':=⟨Nat.le_trans h.len k.len,fun q o hq ho=>k.old q o (lt_of_get ho) (h.old q o hq ho)⟩
theorem Src.keep {m0:Nat} (h:Src Hb bs G) (k:Keep m0 G G') (hm:bs<m0):Src Hb bs G':=by
 obtain ⟨h1,h2,cv,l,a,y,h3,h4,h5,h6,h7⟩:=h
 exact ⟨k.le h1 (by omega),h2,cv,l,a,y,h3,h4,k.own h5 hm,h6,h7⟩
theorem l03DrawSet_ok {few:Int} (hs:Src Hb bs H) (hn:0≤n∧n≤3000) (k:∀ v' l G,Kb bs H G→Src Hb bs G→Fresh H.length G v' 2 1 (LI l)→l.length≤n.toNat+1→K v' G) :
 AC Tryz.prog T0 61 [.pointer (some ⟨bs,0,none⟩),.int .i64 n,.int .i64 few] H K:=by
 have hbs:=hs.lt
 apply F61.ac
 unfold F61.B11 F61.B10
 refine newK_f rfl fun H1 l1 n1 o1=>?_
 unfold F61.B9 F61.L4
 refine ⟨fun x0 x1 x2 x7 x8 G=>.pointer (some ⟨bs,0,none⟩)=x0∧n=x1∧few=x2∧Kb bs H G∧Src Hb bs G∧∃ (i:Nat) (l:List Int),x8=i∧i≤n.toNat∧Fresh H.length G x7 2 1 (LI l)∧l.length≤i,fun _ _ _ _ x8 _=>n.toNat-x8.toNat,
  ⟨rfl,rfl,rfl,.of_le l1,hs.le l1,0,[],rfl,by omega,.inr ⟨_,0,Nat.le_refl _,rfl,o1,rfl⟩,by simp⟩,?_⟩
 rintro x0 x1 x2 x7 x8 G ⟨rfl,rfl,rfl,kb,s,i,l,rfl,hi,hF,hl⟩
 unfold F61.B8
 refine pif_cases (fun hb=>?_) fun hb=>?_
 ·have hlt:i<n.toNat:=by have:=of_decide_eq_true hb;omega
  unfold F61.B7
  refine l01Next_ok s fun r G1 k1 s1 r0 r1 _=>asI_mk ?_
  have hF1:=fresh_kb hF k1 hbs
  have kb1:=kb.trans k1
  refine pif_cases (fun hc=>?_) fun hc=>?_
  ·unfold F61.B6
   refine hF1.sl.pushN E_int (by decide) kb1.len (n:=1) (ys:=[.int .i64 (i:Int)]) rfl rfl (by simp;omega) (by simp) fun v3 G4 k4 _ _ f4=>?_
   unfold F61.B5
   rw [wrap_id (by omega) (by omega)]
   exact ⟨⟨rfl,rfl,rfl,kb1.keep k4,s1.keep k4 hbs,i+1,l++[(i:Int)],by omega,by omega,by simpa using f4,by simp;omega⟩,by simp;omega⟩
  ·unfold F61.B5
   rw [wrap_id (by omega) (by omega)]
   exact ⟨⟨rfl,rfl,rfl,kb1,s1,i+1,l,by omega,by omega,hF1,by omega⟩,by simp;omega⟩
 ·unfold F61.B3
  refine l01Next_ok s fun r G1 k1 s1 r0 r1 _=>asI_mk ?_
  have hF1:=fresh_kb hF k1 hbs
  have kb1:=kb.trans k1
  refine pif_cases (fun hc=>?_) fun hc=>?_
  ·unfold F61.B2
   refine newK_f rfl fun G2 l2 n2 o2=>?_
   have hs1:=s1.lt
   refine l01Pick_ok (l:=[0,-1,n]) (s1.le l2) (own_ints (l:=[0,-1,n]) o2) (by simp) (by simp) (fun x hx=>by simp at hx;omega) (fun G3 k3=>own_ints (l:=[0,-1,n]) (k3.own o2 (by omega))) fun r' G3 k3 s3 hr=>asI_mk ?_
   have hF3:=fresh_kb (hF1.le l2) k3 hbs
   have kb3:=(kb1.trans (.of_le l2)).trans k3
   refine hF3.sl.pushN E_int (by decide) kb3.len (n:=1) (ys:=[.int .i64 r']) rfl rfl (by simp;omega) (by simp) fun v3 G4 k4 _ _ f4=>?_
   unfold F61.B1
   exact k v3 (l++[r']) G4 (kb3.keep k4) (s3.keep k4 hbs) (by simpa using f4) (by simp;omega)
  ·unfold F61.B1
   exact k x7 l G1 kb1 s1 hF1 (by omega)
structure FarN (B N:Nat) (D:List Int):Prop where
 len:D.length=N
 rng:∀ w,w<N→-1≤D.getD w 0∧D.getD w 0+unseen (farB D) N≤B
theorem FarN.set {B N x y:Nat} (h:FarN B N D) (hx:farB D x=true) (hy:y<N) (hf:farB D y=false):FarN B N (D.set y (D.getD x 0+1)):=by
 have hl:=h.len
 have hxl:=farB_lt hx
 have hx0:=(farB_iff hxl).1 hx
 have hu:=unseen_ins (S:=farB D) hy hf
 refine ⟨by simp [hl],fun w hw=>?_⟩
 rw [farB_set (by omega) (by omega)]
 by_cases e:y=w
 ·subst e
  rw [getD_set_self (by omega)]
  have:=h.rng x (by omega)
  omega
 ·rw [getD_set_ne e]
  have:=h.rng w hw
  omega
def FarP (es:List (Int × Int)) (a:Nat) (w0:Int) (D:List Int):Prop:=(farB D a=true∧D.getD a 0=0)∧∀ y,farB D y=true→y=a∨∃ e x:Nat,e<es.length∧(e:Int)≠w0∧on (es.getD e (0,0)) (y:Int)=true∧(es.getD e (0,0)).1+(es.getD e (0,0)).2-(y:Int)=x∧farB D x=true∧D.getD y 0=D.getD x 0+1
theorem FarP.set {a e x y:Nat} {w0:Int} (h:FarP es a w0 D) (hx:farB D x=true) (hy:y<D.length) (hf:farB D y=false) (he:e<es.length) (hw:(e:Int)≠w0) (ho:on (es.getD e (0,0)) (y:Int)=true) (hxy:(es.getD e (0,0)).1+(es.getD e (0,0)).2-(y:Int)=x):FarP es a w0 (D.set y (D.getD x 0+1)):=by
 have hx0:=(farB_iff (farB_lt hx)).1 hx
 have fb:farB (D.set y (D.getD x 0+1))=insB (farB D) y:=farB_set hy (by omega)
 have ne:∀ {z},farB D z=true→y≠z:=fun {z} hz e'=>by rw [← e',hf] at hz;cases hz
 rw [FarP,fb]
 refine ⟨⟨insB_of h.1.1,by rw [getD_set_ne (ne h.1.1)];exact h.1.2⟩,fun z hz=>?_⟩
 by_cases e':z=y
 ·subst e'
  refine .inr ⟨e,x,he,hw,ho,hxy,insB_of hx,?_⟩
  rw [getD_set_self hy,getD_set_ne (ne hx)]
 ·have hz':=insB_ne hz e'
  rcases h.2 z hz' with h1|⟨e2,x2,g1,g2,g3,g4,g5,g6⟩
  ·exact .inl h1
  ·refine .inr ⟨e2,x2,g1,g2,g3,g4,insB_of g5,?_⟩
   rw [getD_set_ne (ne hz'),getD_set_ne (ne g5)];exact g6
structure FarS (Pd:List Int→Prop) (N b7 m0:Nat) (x9:Value) (D:List Int) (L:List Nat) (G:AHeap):Prop where
 o:Own G b7 2 (LI D)
 far:FarN (N+1) N D
 f:Fresh m0 G x9 2 1 (LI (NI L))
 all:∀ x∈L,x<N∧farB D x=true
 cnt:L.length+unseen (farB D) N≤N
 ne:bk x9≠some b7
 p:Pd D
theorem l01Far2_ok {a w0:Int} (h:Edges H v es) (hr:EdR n es) (hn:1≤n∧n≤1000) (hl:es.length≤2000) (ha:0≤a∧a<n) (k:∀ v' D G,H.le G→Fresh H.length G v' 2 1 (LI D)→D.length=n.toNat→FarP es a.toNat w0 D→(∀ w,w<n.toNat→-1≤D.getD w 0∧D.getD w 0≤n.toNat+1)→K v' G) :
 AC Tryz.prog T0 169 [.agg ⟨[.int .i64 n,v]⟩,.int .i64 a,.int .i64 w0] H K:=by
 apply F169.ac
 unfold F169.B23
 refine newK_f (all_iv (edges_one' h)) fun H1 l1 n1 o1=>?_
 unfold F169.B22
 refine ldI_own o1 rfl (mkR_int (by omega) (by omega) (by decide) fun H2 l2 n2 o2=>?_)
 rw [rep_one] at o2
 have o12:=o1.le l2
 have l02:=AHeap.le_trans l1 l2
 have hl1:=l1.1
 unfold F169.B21 F169.L17
 refine ⟨fun x1 x2 x3 x7 x8 G=>a=x1∧w0=x2∧H.length=x3∧.slice (some ⟨H1.length,0,none⟩) n.toNat (n.toNat+1)=x7∧But H1.length H2 G∧∃ (i:Nat) (D:List Int),x8=i∧i≤n.toNat∧D.length=n.toNat∧Own G H1.length 2 (LI D)∧∀ j,j<i→D.getD j 0=-1,fun _ _ _ _ x8 _=>n.toNat-x8.toNat,⟨rfl,rfl,rfl,rfl,⟨rfl,fun _ _=>rfl⟩,0,_,rfl,by omega,List.length_replicate,o2,fun j hj=>absurd hj (by omega)⟩,?_⟩
 rintro x1 x2 x3 x7 x8 G ⟨rfl,rfl,rfl,rfl,bG,i,D,rfl,hi,hDl,oD,hD⟩
 have lG:H.le G:=bG.le l02 l1.1
 have oG:=bG.own o12 (by omega)
 have hGl:=bG.len
 unfold F169.B20
 refine ldI_own oG rfl (pif_cases (fun hb=>?_) fun hb=>?_)
 ·have hlt:i<n.toNat:=by have:=of_decide_eq_true hb;omega
  unfold F169.B19
  refine own_idx (by omega) (by omega) (stK_1 oD (by simp;omega) rfl fun G2 b2 p2=>?_)
  rw [Int.toNat_natCast,← List.map_set] at p2
  unfold F169.B18
  rw [wrap_id (by omega) (by omega)]
  refine ⟨⟨rfl,rfl,rfl,rfl,⟨by rw [b2.len,bG.len],fun c hc'=>by rw [b2.same c hc',bG.same c hc']⟩,i+1,_,by omega,by omega,by simp [hDl],p2,fun j hj=>?_⟩,by simp;omega⟩
  by_cases e:i=j
  ·subst e;exact getD_set_self (by omega)
  ·rw [getD_set_ne e];exact hD j (by omega)
 have hie:i=n.toNat:=by have:=of_decide_eq_false hb;omega
 subst hie
 obtain ⟨a,rfl⟩:∃ a':Nat,a=a':=⟨a.toNat,by omega⟩
 have haN:a<n.toNat:=by omega
 unfold F169.B16
 refine own_idx (by omega) (by omega) (stK_1 oD (by simp;omega) rfl fun G2 b2 p2=>?_)
 rw [Int.toNat_natCast,← List.map_set] at p2
 have lG2:H.le G2:=b2.le lG l1.1
 have oG2:=b2.own oG (by omega)
 have hG2l:=b2.len
 have D0:∀ w,w<n.toNat→(D.set a (0:Int)).getD w 0=if a=w then 0 else -1:=fun w hw=>by
  by_cases e:a=w
  ·subst e;rw [if_pos rfl];exact getD_set_self (by omega)
  ·rw [if_neg e,getD_set_ne e];exact hD w hw
 have F0:∀ w,farB (D.set a (0:Int)) w=true↔w=a:=fun w=>by
  by_cases hw:w<n.toNat
  ·rw [farB_iff (by simp;omega),D0 w hw]
   by_cases e:a=w
   ·subst e;simp
   ·rw [if_neg e];exact ⟨fun h=>absurd h (by decide),fun h=>absurd h.symm e⟩
  ·exact ⟨fun h=>absurd (farB_lt h) (by simp;omega),fun h=>by omega⟩
 have hu:unseen (farB (D.set a (0:Int))) n.toNat+1=n.toNat:=by
  have e:unseen (farB (D.set a (0:Int))) n.toNat=unseen (insB (fun _=>false) a) n.toNat:=unseen_congr fun i _=>by
   unfold insB
   rw [Bool.eq_iff_iff,F0,Bool.false_or,decide_eq_true_iff]
   exact ⟨fun h=>h.symm,fun h=>h.symm⟩
  have e2:=unseen_ins (S:=fun _=>false) haN rfl
  have e3:∀ k,unseen (fun _=>false) k=k:=fun k=>by
   induction k with
   | zero=>rfl
   | succ k ih=>rw [unseen,ih];rfl
  rw [e,e2,e3]
 unfold F169.B15
 refine newK_f rfl fun G3 l3 n3 p3=>?_
 have st3:FarS (FarP es a w0) n.toNat H1.length G2.length (.slice (some ⟨G2.length,0,none⟩) 1 (1+1)) (D.set a 0) [a] G3:=by
  refine ⟨p2.le l3,⟨by simp [hDl],fun w hw=>?_⟩,.inr ⟨_,1,Nat.le_refl _,rfl,p3,rfl⟩,fun x hx=>?_,by simp;omega,fun e=>?_,⟨⟨(F0 a).2 rfl,by rw [D0 a haN,if_pos rfl]⟩,fun y hy=>.inl ((F0 y).1 hy)⟩⟩
  ·rw [D0 w hw];split <;> omega
  ·rw [List.mem_singleton] at hx;subst hx;exact ⟨haN,(F0 x).2 rfl⟩
  ·have:G2.length=H1.length:=Option.some.inj e
   have:=p2.lt;omega
 have lG3:=AHeap.le_trans lG2 l3
 have oG3:=oG2.le l3
 have hl2:=l2.1
 have o1l:=o1.lt
 clear p2 p3 D0 F0 hu
 unfold F169.B14 F169.L2
 refine ⟨fun x2 x3 x7 x9 x10 G=>w0=x2∧H.length=x3∧.slice (some ⟨H1.length,0,none⟩) n.toNat (n.toNat+1)=x7∧H.le G∧G2.length≤G.length∧Own G H.length 26 [.int .i64 n,v]∧∃ (i:Nat) (D:List Int) (L:List Nat),x10=i∧i≤L.length∧FarS (FarP es a w0) n.toNat H1.length G2.length x9 D L G,fun _ _ _ _ x10 _=>n.toNat-x10.toNat,⟨rfl,rfl,rfl,lG3,l3.1,oG3,0,_,_,rfl,by omega,st3⟩,?_⟩
 rintro x2 x3 x7 x9 x10 G4 ⟨rfl,rfl,rfl,lG4,hG4,oG4,i,D4,L4,rfl,hi,st⟩
 unfold F169.B13
 have hNL:(NI L4).length=L4.length:=by simp
 refine st.f.ints.len (pif_cases (fun hb=>?_) fun hb=>?_)
 ·have hlt:i<L4.length:=by rw [hNL] at hb;have:=of_decide_eq_true hb;omega
  have hcn:=st.cnt
  obtain ⟨x,hx⟩:∃ x,x=L4[i]:=⟨_,rfl⟩
  obtain ⟨hxN,hxf⟩:=st.all x (by rw [hx];exact List.getElem_mem hlt)
  have hxg:(NI L4).getD i 0=(x:Int):=by rw [getD_of (by rw [hNL];exact hlt),List.getElem_map,hx];rfl
  unfold F169.B12
  refine ldI_own oG4 rfl (ld1_own oG4 rfl (st.f.ints.rd (by omega) (by rw [hNL];omega) ?_))
  rw [Int.toNat_natCast,hxg]
  refine l01At_ok (h.le lG4) (by omega) fun x11 G5 l5 f5=>?_
  have hat:(atL es (x:Int)).length≤es.length:=filtB_length _ _
  unfold F169.B11 F169.L4
  refine ⟨fun x2 x3 x7 x9 x10 y11 x12 G=>w0=x2∧H.length=x3∧.slice (some ⟨H1.length,0,none⟩) n.toNat (n.toNat+1)=x7∧(i:Int)=x10∧x11=y11∧H.le G∧G2.length≤G.length∧Own G H.length 26 [.int .i64 n,v]∧Fresh G4.length G x11 2 1 (LI (atL es (x:Int)))∧(∀ b,bk x11=some b→bk x9≠some b)∧∃ (t:Nat) (D:List Int) (L:List Nat),x12=t∧t≤(atL es (x:Int)).length∧i<L.length∧L.getD i 0=x∧FarS (FarP es a w0) n.toNat H1.length G2.length x9 D L G,
   fun _ _ _ _ _ _ x12 _=>(atL es (x:Int)).length-x12.toNat,⟨rfl,rfl,rfl,rfl,rfl,AHeap.le_trans lG4 l5,Nat.le_trans hG4 l5.1,oG4.le l5,f5,fun b hb hb'=>by have:=(f5.bk_lt hb).1;have:=(st.f.bk_lt hb').2;omega,0,D4,L4,rfl,by omega,hlt,by rw [getD_of hlt,hx],st.o.le l5,st.far,st.f.le l5,st.all,st.cnt,st.ne,st.p⟩,?_⟩
  clear f5 l5 hxf hcn hxg st oG4 lG4 hNL
  rintro x2 x3 x7 x9 x10 y11 x12 G6 ⟨rfl,rfl,rfl,rfl,rfl,lG6,hG6,oG6,f6,hne,t,D6,L6,rfl,ht,hiL,hLi,st⟩
  have hNL:(NI L6).length=L6.length:=by simp
  have hxg:(NI L6).getD i 0=(x:Int):=by rw [getD_of (by rw [hNL];exact hiL),List.getElem_map];rw [getD_of hiL] at hLi;rw [hLi];rfl
  have hxm:x∈L6:=by rw [getD_of hiL] at hLi;rw [← hLi];exact List.getElem_mem hiL
  obtain ⟨_,hxf⟩:=st.all x hxm
  unfold F169.B10
  refine f6.ints.len (pif_cases (fun hb=>?_) fun hb=>?_)
  ·have htl:t<(atL es (x:Int)).length:=by have:=of_decide_eq_true hb;omega
   obtain ⟨e,he1,he2,he3⟩:=at_get htl
   have hm:es.getD e (0,0)∈es:=by rw [getD_of he2];exact List.getElem_mem _
   have hre:=hr _ hm
   unfold F169.B9
   refine ldI_own oG6 rfl (ld1_own oG6 rfl (f6.ints.rd (by omega) (by omega) (st.f.ints.rd (by omega) (by rw [hNL];omega) ?_)))
   simp only [Int.toNat_natCast]
   rw [hxg,he1]
   refine l01Other_ok (h.le lG6) (by omega) (by omega) (by rw [Int.toNat_natCast];omega) (by rw [Int.toNat_natCast];omega) (by omega) fun G7 l7=>asI_mk ?_
   rw [Int.toNat_natCast]
   obtain ⟨y,hy⟩:∃ y:Nat,(es.getD e (0,0)).1+(es.getD e (0,0)).2-(x:Int)=y:=⟨((es.getD e (0,0)).1+(es.getD e (0,0)).2-(x:Int)).toNat,by rcases on_oth he3 with q|q <;> omega⟩
   have hyN:y<n.toNat:=by rcases on_oth he3 with q|q <;> omega
   rw [hy]
   have f7:=f6.le l7
   have o7:=st.o.le l7
   have s7:=st.f.le l7
   have lG7:=AHeap.le_trans lG6 l7
   have oG7:=oG6.le l7
   have hG7:=Nat.le_trans hG6 l7.1
   have oi:=own_ints (c:=n.toNat+1) o7
   rw [st.far.len] at oi
   have hDl6:=st.far.len
   have next:∀ G8 D8 L8 x9',H.le G8→G2.length≤G8.length→Own G8 H.length 26 [.int .i64 n,v]→Fresh G4.length G8 x11 2 1 (LI (atL es (x:Int)))→(∀ b,bk x11=some b→bk x9'≠some b)→i<L8.length→L8.getD i 0=x→FarS (FarP es a w0) n.toNat H1.length G2.length x9' D8 L8 G8→
    F169.B5 K (fun z2 z3 z7 z9 z10 G=>(w0=z2∧H.length=z3∧.slice (some ⟨H1.length,0,none⟩) n.toNat (n.toNat+1)=z7∧H.le G∧G2.length≤G.length∧Own G H.length 26 [.int .i64 n,v]∧∃ (i:Nat) (D:List Int) (L:List Nat),z10=i∧i≤L.length∧FarS (FarP es a w0) n.toNat H1.length G2.length z9 D L G)∧n.toNat-z10.toNat<n.toNat-((i:Nat):Int).toNat)
     (fun z2 z3 z7 z9 z10 z11 z12 G=>(w0=z2∧H.length=z3∧.slice (some ⟨H1.length,0,none⟩) n.toNat (n.toNat+1)=z7∧(i:Int)=z10∧x11=z11∧H.le G∧G2.length≤G.length∧Own G H.length 26 [.int .i64 n,v]∧Fresh G4.length G x11 2 1 (LI (atL es (x:Int)))∧(∀ b,bk x11=some b→bk z9≠some b)∧∃ (t:Nat) (D:List Int) (L:List Nat),z12=t∧t≤(atL es (x:Int)).length∧i<L.length∧L.getD i 0=x∧FarS (FarP es a w0) n.toNat H1.length G2.length z9 D L G)∧(atL es (x:Int)).length-z12.toNat<(atL es (x:Int)).length-((t:Nat):Int).toNat)
     w0 H.length (.slice (some ⟨H1.length,0,none⟩) n.toNat (n.toNat+1)) x9' i x11 t G8:=by
    intro G8 D8 L8 x9' q1 q2 q3 q4 q5 q6 q7 q8
    unfold F169.B5
    rw [wrap_id (by omega) (by omega)]
    exact ⟨⟨rfl,rfl,rfl,rfl,rfl,q1,q2,q3,q4,q5,t+1,D8,L8,by omega,by omega,q6,q7,q8⟩,by simp;omega⟩
   have same:FarS (FarP es a w0) n.toNat H1.length G2.length x9 D6 L6 G7:=⟨o7,st.far,s7,st.all,st.cnt,st.ne,st.p⟩
   unfold F169.B8
   refine f7.ints.rd (by omega) (by omega) (pif_cases (fun hc=>oi.rd (by omega) (by omega) (pif_cases (fun hd=>?_) fun hd=>next G7 D6 L6 x9 lG7 hG7 oG7 f7 hne hiL hLi same)) fun hc=>next G7 D6 L6 x9 lG7 hG7 oG7 f7 hne hiL hLi same)
   have hwe:(e:Int)≠w0:=by
    have:=bne_iff_ne.1 hc
    simp only [Int.toNat_natCast,he1] at this;exact this
   have hey:on (es.getD e (0,0)) (y:Int)=true:=by
    rcases on_oth he3 with q|q
    ·unfold on;simp only [Bool.or_eq_true,beq_iff_eq];omega
    ·unfold on;simp only [Bool.or_eq_true,beq_iff_eq];omega
   have hyf:farB D6 y=false:=by
    have:=of_decide_eq_true hd
    rw [Int.toNat_natCast] at this
    cases hf:farB D6 y with
    | false=>rfl
    | true=>have:=(farB_iff (by omega)).1 hf;omega
   have hx0:=(farB_iff (farB_lt hxf)).1 hxf
   have hxr:=(st.far.rng x hxN).2
   have hus:=unseen_le (farB D6) n.toNat
   unfold F169.B7
   refine s7.ints.rd (by omega) (by rw [hNL];omega) ?_
   simp only [Int.toNat_natCast]
   rw [hxg]
   refine oi.rd (by omega) (by omega) (own_idx (by omega) (by omega) (stK_1 o7 (by simp;omega) rfl fun G8 b8 p8=>?_))
   rw [Int.toNat_natCast,Int.toNat_natCast,wrap_id (by omega) (by omega),← List.map_set] at p8
   have far8:=st.far.set hxf hyN hyf
   have fb8:farB (D6.set y (D6.getD x 0+1))=insB (farB D6) y:=farB_set (by omega) (by omega)
   have f8:=f7.but b8 (by have:=o7.lt;have:=p8.lt;omega)
   have s8:=s7.but b8 (by omega)
   have hcn:=st.cnt
   have hui:=unseen_ins (S:=farB D6) hyN hyf
   have hg8:=b8.len
   unfold F169.B6
   refine s8.sl.pushN E_int (by decide) (by omega) (n:=1) (ys:=[.int .i64 (y:Int)]) rfl rfl (by simp;omega) (by simp) fun v3 G9 k9 ot9 nb9 f9=>?_
   have e9:LI (NI L6)++[.int .i64 (y:Int)]=LI (NI (L6++[y])):=by simp
   rw [e9] at f9
   have hb7:H1.length<G2.length:=by omega
   refine next G9 _ (L6++[y]) v3 (k9.le (b8.le lG7 hl1) (by omega)) (by have:=k9.len;omega) (k9.own (b8.own oG7 (by omega)) (by omega)) (fresh_oth f8 fun b o hb ho=>ot9 b o (fun e=>hne b hb e) ho) (fun b hb hb'=>by have:=(f8.bk_lt hb).2;have:=nb9 b hb';omega) (by simp;omega) ?_ ⟨k9.own p8 hb7,far8,f9,fun z hz=>?_,?_,fun e=>by have:=nb9 _ e;omega,st.p.set hxf (by omega) hyf he2 hwe hey (by omega)⟩
   ·rw [List.getD,List.getElem?_append_left hiL];exact hLi
   ·rw [fb8]
    rcases List.mem_append.1 hz with hz|hz
    ·exact ⟨(st.all z hz).1,insB_of (st.all z hz).2⟩
    ·rw [List.mem_singleton] at hz;subst hz;exact ⟨hyN,insB_self _ _⟩
   ·rw [fb8];simp;omega
  ·unfold F169.B3
   have hcn:=st.cnt
   rw [wrap_id (by omega) (by omega)]
   exact ⟨⟨rfl,rfl,rfl,lG6,hG6,oG6,i+1,D6,L6,by omega,by omega,st⟩,by simp;omega⟩
 ·unfold F169.B1
  refine k _ D4 G4 lG4 (.inr ⟨H1.length,n.toNat,l1.1,rfl,st.o,?_⟩) st.far.len (by rw [Int.toNat_natCast];exact st.p) fun w hw=>?_
  ·rw [List.length_map,st.far.len];omega
  ·have:=st.far.rng w hw
   omega
end Go.Proofs
namespace Go.Proofs
open Go.Abs

variable {H G G' Hb H0:AHeap} {v u f w:Value} {l m D F:List Int} {es fs:List (Int × Int)} {K:Value→AHeap→Prop} {bs b7:Nat} {n q:Int}

theorem tm_rng {x q:Int} (h0:0≤x) (hq:0<q):0≤Int.tmod x q∧Int.tmod x q<q:=by
 rw [Int.tmod_eq_emod_of_nonneg h0]
 exact ⟨Int.emod_nonneg _ (by omega),Int.emod_lt_of_pos _ hq⟩
structure FloS (Hb H:AHeap) (bs b7:Nat) (n q:Int) (v:Value) (es:List (Int × Int)) (F:List Int) (G:AHeap):Prop where
 kb:Kb bs H G
 s:Src Hb bs G
 og:Own G H.length 26 [.int .i64 n,v]
 o:Own G b7 2 (LI F)
 len:F.length=es.length
 rng:∀ x∈F,0≤x∧x<q
theorem FloS.step (h:FloS Hb H bs b7 n q v es F G) (hb:bs<H.length) (h7:bs<b7) (k:Kb bs G G') (s:Src Hb bs G'):FloS Hb H bs b7 n q v es F G':=
 ⟨h.kb.trans k,s,k.own h.og (by omega),k.own h.o (by omega),h.len,h.rng⟩
theorem FloS.le (h:FloS Hb H bs b7 n q v es F G) (hb:bs<H.length) (h7:bs<b7) (l:G.le G'):FloS Hb H bs b7 n q v es F G':=h.step hb h7 (.of_le l) (h.s.le l)
theorem FloS.put (h:FloS Hb H bs b7 n q v es F G) (hb:bs<H.length) (h7:H.length<b7) {j:Nat} {x:Int} (b:But b7 G G') (o:Own G' b7 2 ((LI F).set j (.int .i64 x))) (h0:0≤x) (h1:x<q):FloS Hb H bs b7 n q v es (F.set j x) G':=by
 refine ⟨h.kb.but b (by omega),h.s.but b (by omega),b.own h.og (by omega),by rw [← List.map_set] at o;exact o,by simp [h.len],fun y hy=>?_⟩
 rcases List.mem_or_eq_of_mem_set hy with hy|rfl
 ·exact h.rng y hy
 ·exact ⟨h0,h1⟩
theorem FloS.ints (h:FloS Hb H bs b7 n q v es F G):Ints G (.slice (some ⟨b7,0,none⟩) es.length (es.length+1)) F:=by
 have:=own_ints (c:=es.length+1) h.o
 rw [h.len] at this;exact this
theorem FloS.get (h:FloS Hb H bs b7 n q v es F G) {j:Nat} (hj:j<es.length):0≤F.getD j 0∧F.getD j 0<q:=by
 rw [getD_of (by have:=h.len;omega)];exact h.rng _ (List.getElem_mem _)
theorem l05DrawFlow_ok (hs:Src Hb bs H) (h:Sl (bs+1) H v 66 2 (LE es)) (hg:Gd2 n es) (hq:2≤q∧q≤1000)
 (k:∀ v' F G,Kb bs H G→Src Hb bs G→Fresh H.length G v' 2 1 (LI F)→F.length=es.length→(∀ x∈F,0≤x∧x<q)→K v' G) :
 AC Tryz.prog T0 119 [.pointer (some ⟨bs,0,none⟩),.agg ⟨[.int .i64 n,v]⟩,.int .i64 q] H K:=by
 have hbs:=hs.lt
 have hpos:=hg.pos;have hlen:=hg.len;have hlo:=hg.lo;have hhi:=hg.hi
 have hend:∀ e,e<es.length→0≤(es.getD e (0,0)).1∧(es.getD e (0,0)).1<n∧0≤(es.getD e (0,0)).2∧(es.getD e (0,0)).2<n:=fun e he=>by
  rw [getD_of he];exact hg.rng _ (List.getElem_mem he)
 apply F119.ac
 unfold F119.B26
 refine newK_f (all_iv (sl_one h)) fun H1 l1 n1 o1=>?_
 unfold F119.B25
 refine ld1_own o1 rfl ((sl_edges (h.le l1)).len (mkR_int (by omega) (by omega) (by decide) fun H2 l2 n2 o2=>?_))
 rw [rep_one,Int.toNat_natCast] at o2
 rw [Int.toNat_natCast]
 have l02:=AHeap.le_trans l1 l2
 have h7:H.length<H1.length:=by omega
 have h7':bs<H1.length:=by omega
 have st0:FloS Hb H bs H1.length n q v es (List.replicate es.length 0) H2:=⟨.of_le l02,hs.le l02,o1.le l2,o2,List.length_replicate,fun x hx=>by rw [List.mem_replicate] at hx;omega⟩
 have hsl:∀ {F G},FloS Hb H bs H1.length n q v es F G→Edges G v es:=fun st=>sl_edges (sl_kb h st.kb)
 unfold F119.B24
 refine l01Next_ok st0.s fun r G1 k1 s1 r0 r1 _=>asI_mk ?_
 have hr:=r1 (by decide)
 unfold F119.L2
 refine ⟨fun x0 x2 x4 x7 x8 G=>.pointer (some ⟨bs,0,none⟩)=x0∧q=x2∧H.length=x4∧.slice (some ⟨H1.length,0,none⟩) es.length (es.length+1)=x7∧∃ (i:Nat) (F:List Int),x8=i∧i≤6∧FloS Hb H bs H1.length n q v es F G,
  fun _ _ _ _ x8 _=>x8.toNat,⟨rfl,rfl,rfl,rfl,r.toNat,_,by omega,by omega,st0.step hbs h7' k1 s1⟩,?_⟩
 rintro x0 x2 x4 x7 x8 G ⟨rfl,rfl,rfl,rfl,i,F,rfl,hi,st⟩
 unfold F119.B23
 refine pif_cases (fun hb=>?_) fun hb=>?_
 rotate_left
 ·unfold F119.B1
  refine k _ F G st.kb st.s (.inr ⟨H1.length,es.length,by omega,rfl,st.o,?_⟩) st.len st.rng
  rw [List.length_map,st.len];omega
 have hi0:0<i:=by have:=of_decide_eq_true hb;omega
 clear st0 k1 s1 r1 hr hb
 have nx:∀ G F,FloS Hb H bs H1.length n q v es F G→F119.B3 K (fun y0 y2 y4 y7 y8 G'=>(.pointer (some ⟨bs,0,none⟩)=y0∧q=y2∧H.length=y4∧.slice (some ⟨H1.length,0,none⟩) es.length (es.length+1)=y7∧∃ (i:Nat) (F:List Int),y8=i∧i≤6∧FloS Hb H bs H1.length n q v es F G')∧y8.toNat<((i:Nat):Int).toNat)
  (.pointer (some ⟨bs,0,none⟩)) q H.length (.slice (some ⟨H1.length,0,none⟩) es.length (es.length+1)) (i:Int) G:=by
  intro G F st
  unfold F119.B3
  rw [wrap_id (by omega) (by omega)]
  exact ⟨⟨rfl,rfl,rfl,rfl,i-1,F,by omega,by omega,st⟩,by omega⟩
 unfold F119.B22
 refine ld1_own st.og rfl ((hsl st).len (l01Next_ok st.s fun e G2 k2 s2 e0 e1 _=>asI_mk ?_))
 have he:=e1 (by omega)
 have st2:=st.step hbs h7' k2 s2
 obtain ⟨e,rfl⟩:∃ e':Nat,e=e':=⟨e.toNat,by omega⟩
 obtain ⟨b,o,hk,c1,c2⟩:=(hsl st2).idx e0 he
 rw [Int.toNat_natCast] at c1 c2
 have hee:=hend e (by omega)
 unfold F119.B21
 refine ld1_own st2.og rfl (hk _ (ldI_mk c1 (ld1_own st2.og rfl (hk _ (ldI_mk c2 ?_)))))
 obtain ⟨a,ha⟩:∃ a:Nat,(es.getD e (0,0)).1=a:=⟨(es.getD e (0,0)).1.toNat,by omega⟩
 obtain ⟨c,hc⟩:∃ c:Nat,(es.getD e (0,0)).2=c:=⟨(es.getD e (0,0)).2.toNat,by omega⟩
 rw [ha,hc] at hee ⊢
 unfold F119.B20
 refine ldI_own st2.og rfl (ld1_own st2.og rfl (l01Far2_ok (hsl st2) hg.rng ⟨by omega,by omega⟩ (by omega) ⟨by omega,by omega⟩ fun x12 D G3 l3 f3 hD hP hDr=>?_))
 rw [Int.toNat_natCast] at hP
 have hG2:=st2.o.lt
 rw [wrap_id (by omega) (by omega)]
 refine l01Next_ok (st2.s.le l3) fun r G4 k4 s4 r0 r1 _=>asI_mk ?_
 have hr1:=r1 (by omega)
 rw [wrap_id (by omega) (by omega)]
 obtain ⟨d,hd⟩:∃ d,d=1+r:=⟨_,rfl⟩
 rw [← hd]
 have st4:=(st2.le hbs h7' l3).step hbs h7' k4 s4
 have f4:=fresh_kb f3 k4 (by omega)
 unfold F119.B19
 refine f4.ints.rd (by omega) (by omega) (pif_cases (fun _=>nx G4 F st4) fun hb=>?_)
 rw [Int.toNat_natCast] at hb
 have hc0:=of_decide_eq_false hb
 unfold F119.B18
 have hge:=st4.get (j:=e) (by omega)
 refine st4.ints.rd (by omega) (by have:=st4.len;omega) (nzK_mk (by omega) (own_idx (by omega) (by omega) (stK_1 st4.o (by have:=st4.len;simp;omega) rfl fun G5 b5 p5=>?_)))
 rw [Int.toNat_natCast] at p5
 rw [wrap_id (by omega) (by omega)] at p5
 have hm:=tm_rng (x:=F.getD e 0+d) (q:=q) (by omega) (by omega)
 have st5:=st4.put hbs h7 b5 p5 hm.1 hm.2
 have f5:=f4.but b5 (by omega)
 unfold F119.B17 F119.L4
 refine ⟨fun x0 x2 x4 x7 x8 x9 x10 y12 x13 x14 G=>.pointer (some ⟨bs,0,none⟩)=x0∧q=x2∧H.length=x4∧.slice (some ⟨H1.length,0,none⟩) es.length (es.length+1)=x7∧(i:Int)=x8∧(e:Int)=x9∧(a:Int)=x10∧x12=y12∧d=x13∧Fresh G2.length G x12 2 1 (LI D)∧∃ (y:Nat) (F:List Int),x14=y∧farB D y=true∧FloS Hb H bs H1.length n q v es F G,
  fun _ _ _ _ _ _ _ _ _ x14 _=>(D.getD x14.toNat 0).toNat,⟨rfl,rfl,rfl,rfl,rfl,rfl,rfl,rfl,rfl,f5,c,_,rfl,(farB_iff (by omega)).2 (by omega),st5⟩,?_⟩
 clear st st2 st4 st5 f3 f4 f5 p5 b5 hm hge
 rintro x0 x2 x4 x7 x8 x9 x10 y12 x13 x14 G ⟨rfl,rfl,rfl,rfl,rfl,rfl,rfl,rfl,rfl,fD,y,F,rfl,hy,st⟩
 have hyl:=farB_lt hy
 have hy0:=(farB_iff hyl).1 hy
 have hyr:=hDr y (by omega)
 unfold F119.B16
 refine pif_cases (fun hb=>?_) fun hb=>nx G F st
 have hya:y≠a:=fun e'=>by subst e';simp at hb
 unfold F119.B15
 refine ldI_own st.og rfl (ld1_own st.og rfl (l01At_ok (hsl st) (by omega) fun x15 G6 l6 f6=>?_))
 have hat:(atL es (y:Int)).length≤es.length:=filtB_length _ _
 have hGl:=st.o.lt
 unfold F119.B14 F119.L5
 obtain ⟨Cnd,hCnd⟩:∃ Cnd:Nat→Prop,Cnd=fun t=>(atL es (y:Int)).getD t 0≠e∧D.getD ((es.getD ((atL es (y:Int)).getD t 0).toNat (0,0)).1+(es.getD ((atL es (y:Int)).getD t 0).toNat (0,0)).2-(y:Int)).toNat 0=D.getD y 0-1:=⟨_,rfl⟩
 refine ⟨fun x0 x2 x4 x7 x8 x9 x10 y12 x13 x14 y15 x16 G=>.pointer (some ⟨bs,0,none⟩)=x0∧q=x2∧H.length=x4∧.slice (some ⟨H1.length,0,none⟩) es.length (es.length+1)=x7∧(i:Int)=x8∧(e:Int)=x9∧(a:Int)=x10∧x12=y12∧d=x13∧(y:Int)=x14∧x15=y15∧Fresh G2.length G x12 2 1 (LI D)∧Fresh H2.length G x15 2 1 (LI (atL es (y:Int)))∧FloS Hb H bs H1.length n q v es F G∧∃ t:Nat,x16=t∧t≤(atL es (y:Int)).length∧∀ t'<t,¬ Cnd t',
  fun _ _ _ _ _ _ _ _ _ _ _ x16 _=>(atL es (y:Int)).length-x16.toNat,⟨rfl,rfl,rfl,rfl,rfl,rfl,rfl,rfl,rfl,rfl,rfl,fD.le l6,f6.less ?_,st.le hbs h7' l6,0,rfl,by omega,fun t' ht=>absurd ht (by omega)⟩,?_⟩
 ·have:=st.kb.len;omega
 clear st fD f6
 rintro x0 x2 x4 x7 x8 x9 x10 y12 x13 x14 y15 x16 G ⟨rfl,rfl,rfl,rfl,rfl,rfl,rfl,rfl,rfl,rfl,rfl,fD,f6,st,t,rfl,ht,hno⟩
 unfold F119.B13
 refine f6.ints.len (pif_cases (fun hb=>?_) fun hb=>?_)
 rotate_left
 ·exfalso
  have hte:t=(atL es (y:Int)).length:=by have:=of_decide_eq_false hb;omega
  rcases hP.2 y hy with h1|⟨e2,x,g1,g2,g3,g4,g5,g6⟩
  ·exact hya h1
  ·obtain ⟨t',ht',hte'⟩:=List.getElem_of_mem (mem_atL.2 ⟨e2,rfl,g1,g3⟩)
   refine hno t' (by omega) ?_
   rw [hCnd]
   simp only
   rw [getD_of ht',hte',Int.toNat_natCast,g4,Int.toNat_natCast]
   exact ⟨g2,by omega⟩
 have htl:t<(atL es (y:Int)).length:=by have:=of_decide_eq_true hb;omega
 obtain ⟨e2,he1,he2,he3⟩:=at_get htl
 have hre:=hend e2 he2
 unfold F119.B12
 refine ldI_own st.og rfl (ld1_own st.og rfl (f6.ints.rd (by omega) (by omega) ?_))
 rw [Int.toNat_natCast,he1]
 refine l01Other_ok (hsl st) (by omega) (by omega) (by rw [Int.toNat_natCast];omega) (by rw [Int.toNat_natCast];omega) (by omega) fun G7 l7=>asI_mk ?_
 rw [Int.toNat_natCast]
 obtain ⟨z,hz⟩:∃ z:Nat,(es.getD e2 (0,0)).1+(es.getD e2 (0,0)).2-(y:Int)=z:=⟨((es.getD e2 (0,0)).1+(es.getD e2 (0,0)).2-(y:Int)).toNat,by rcases on_oth he3 with p|p <;> omega⟩
 have hzN:z<n.toNat:=by rcases on_oth he3 with p|p <;> omega
 rw [hz]
 have st7:=st.le hbs h7' l7
 have f7:=f6.le l7
 have d7:=fD.le l7
 have hCt:Cnd t↔(e2:Int)≠e∧D.getD z 0=D.getD y 0-1:=by
  rw [hCnd]
  simp only
  rw [he1,Int.toNat_natCast,hz,Int.toNat_natCast]
 unfold F119.B11
 have stay:∀ N2 N4,¬ Cnd t→F119.B6 K N2 N4 (fun y0 y2 y4 y7 y8 y9 y10 y12 y13 y14 y15 y16 G'=>(.pointer (some ⟨bs,0,none⟩)=y0∧q=y2∧H.length=y4∧.slice (some ⟨H1.length,0,none⟩) es.length (es.length+1)=y7∧(i:Int)=y8∧(e:Int)=y9∧(a:Int)=y10∧x12=y12∧d=y13∧(y:Int)=y14∧x15=y15∧Fresh G2.length G' x12 2 1 (LI D)∧Fresh H2.length G' x15 2 1 (LI (atL es (y:Int)))∧FloS Hb H bs H1.length n q v es F G'∧∃ t:Nat,y16=t∧t≤(atL es (y:Int)).length∧∀ t'<t,¬ Cnd t')∧(atL es (y:Int)).length-y16.toNat<(atL es (y:Int)).length-((t:Nat):Int).toNat)
  (.pointer (some ⟨bs,0,none⟩)) q H.length (.slice (some ⟨H1.length,0,none⟩) es.length (es.length+1)) (i:Int) (e:Int) (a:Int) x12 d (y:Int) x15 (t:Int) G7:=by
  intro N2 N4 hn
  unfold F119.B6
  rw [wrap_id (by omega) (by omega)]
  refine ⟨⟨rfl,rfl,rfl,rfl,rfl,rfl,rfl,rfl,rfl,rfl,rfl,d7,f7,st7,t+1,by omega,by omega,fun t' ht'=>?_⟩,by simp;omega⟩
  by_cases e':t'=t
  ·subst e';exact hn
  ·exact hno t' (by omega)
 refine f7.ints.rd (by omega) (by omega) (pif_cases (fun hc'=>?_) fun hc'=>stay _ _ fun hC=>?_)
 rotate_left
 ·rw [Int.toNat_natCast,he1] at hc'
  exact (hCt.1 hC).1 (bne_eq_false_iff_eq.1 hc')
 rw [Int.toNat_natCast,he1] at hc'
 have hne:=bne_iff_ne.1 hc'
 refine d7.ints.rd (by omega) (by omega) (d7.ints.rd (by omega) (by omega) ?_)
 rw [Int.toNat_natCast,Int.toNat_natCast,wrap_id (by omega) (by omega)]
 refine pif_cases (fun hd'=>?_) fun hd'=>stay _ _ fun hC=>?_
 rotate_left
 ·exact beq_eq_false_iff_ne.1 hd' (hCt.1 hC).2
 have hdz:D.getD z 0=D.getD y 0-1:=beq_iff_eq.1 hd'
 have hy1:1≤D.getD y 0:=by
  rcases hP.2 y hy with h1|⟨e2',x,g1,g2,g3,g4,g5,g6⟩
  ·exact absurd h1 hya
  ·have:=(farB_iff (farB_lt g5)).1 g5;omega
 have hzf:farB D z=true:=(farB_iff (by omega)).2 (by omega)
 have hF:=st7.get he2
 have hFl:=st7.len
 -- the end
 have go:∀ (x:Int) G8,0≤x→x<q→But H1.length G7 G8→Own G8 H1.length 2 ((LI F).set e2 (.int .i64 x))→
  F119.B7 K (fun y0 y2 y4 y7 y8 G'=>(.pointer (some ⟨bs,0,none⟩)=y0∧q=y2∧H.length=y4∧.slice (some ⟨H1.length,0,none⟩) es.length (es.length+1)=y7∧∃ (i:Nat) (F:List Int),y8=i∧i≤6∧FloS Hb H bs H1.length n q v es F G')∧y8.toNat<((i:Nat):Int).toNat)
   (fun y0 y2 y4 y7 y8 y9 y10 y12 y13 y14 G'=>(.pointer (some ⟨bs,0,none⟩)=y0∧q=y2∧H.length=y4∧.slice (some ⟨H1.length,0,none⟩) es.length (es.length+1)=y7∧(i:Int)=y8∧(e:Int)=y9∧(a:Int)=y10∧x12=y12∧d=y13∧Fresh G2.length G' x12 2 1 (LI D)∧∃ (y:Nat) (F:List Int),y14=y∧farB D y=true∧FloS Hb H bs H1.length n q v es F G')∧(D.getD y14.toNat 0).toNat<(D.getD ((y:Nat):Int).toNat 0).toNat)
   (fun y0 y2 y4 y7 y8 y9 y10 y12 y13 y14 y15 y16 G'=>(.pointer (some ⟨bs,0,none⟩)=y0∧q=y2∧H.length=y4∧.slice (some ⟨H1.length,0,none⟩) es.length (es.length+1)=y7∧(i:Int)=y8∧(e:Int)=y9∧(a:Int)=y10∧x12=y12∧d=y13∧(y:Int)=y14∧x15=y15∧Fresh G2.length G' x12 2 1 (LI D)∧Fresh H2.length G' x15 2 1 (LI (atL es (y:Int)))∧FloS Hb H bs H1.length n q v es F G'∧∃ t:Nat,y16=t∧t≤(atL es (y:Int)).length∧∀ t'<t,¬ Cnd t')∧(atL es (y:Int)).length-y16.toNat<(atL es (y:Int)).length-((t:Nat):Int).toNat)
   (.pointer (some ⟨bs,0,none⟩)) q H.length (.slice (some ⟨H1.length,0,none⟩) es.length (es.length+1)) (i:Int) (e:Int) (a:Int) x12 d (z:Int) G8:=by
  intro x G8 x0 x1 b8 o8
  unfold F119.B7
  refine ⟨⟨rfl,rfl,rfl,rfl,rfl,rfl,rfl,rfl,rfl,d7.but b8 (by omega),z,_,rfl,hzf,st7.put hbs h7 b8 o8 x0 x1⟩,?_⟩
  rw [Int.toNat_natCast,Int.toNat_natCast,hdz];omega
 unfold F119.B10
 refine pif_cases (fun _=>?_) fun _=>?_
 ·unfold F119.B8
  refine f7.ints.rd (by omega) (by omega) (f7.ints.rd (by omega) (by omega) ?_)
  rw [Int.toNat_natCast,he1]
  refine st7.ints.rd (by omega) (by omega) (nzK_mk (by omega) (own_idx (by omega) (by omega) (stK_1 st7.o (by simp;omega) rfl fun G8 b8 o8=>?_)))
  rw [Int.toNat_natCast,wrap_id (by omega) (by omega)] at o8
  have hm:=tm_rng (x:=F.getD e2 0+d) (q:=q) (by omega) (by omega)
  exact go _ G8 hm.1 hm.2 b8 o8
 ·unfold F119.B9
  refine f7.ints.rd (by omega) (by omega) (f7.ints.rd (by omega) (by omega) ?_)
  rw [Int.toNat_natCast,he1]
  refine st7.ints.rd (by omega) (by omega) (nzK_mk (by omega) (own_idx (by omega) (by omega) (stK_1 st7.o (by simp;omega) rfl fun G8 b8 o8=>?_)))
  rw [Int.toNat_natCast,show IntKind.i64.wrap (F.getD e2 0+q)=F.getD e2 0+q from wrap_id (by omega) (by omega),wrap_id (by omega) (by omega)] at o8
  have hm:=tm_rng (x:=F.getD e2 0+q-d) (q:=q) (by omega) (by omega)
  exact go _ G8 hm.1 hm.2 b8 o8
end Go.Proofs
namespace Go.Proofs
open Go.Abs

variable {H G G' Hb H0:AHeap} {v u f w:Value} {l m D:List Int} {es fs:List (Int × Int)} {K:Value→AHeap→Prop} {bs:Nat} {n:Int}

def DrwL (H:AHeap) (K:Value→AHeap→Prop):Prop:=∀ v n es w l G,H.le G→Sl H.length G v 66 2 (LE es)→Fresh H.length G w 2 1 (LI l)→es.length≤2000→l.length≤3000→-2≤n→n≤202→K (.tuple ⟨[.agg ⟨[.int .i64 n,v]⟩,w]⟩) G
theorem with_tail {x2:Nat} (k:DrwL H K) (l1:H.le G) (hx:H.length≤x2) (o:Own G x2 26 [.int .i64 0,.slice none 0 0]) (hv:Sl (x2+1) G v 66 2 (LE es)) (hw:Fresh (x2+1) G w 2 1 (LI l)) (h1:es.length≤2000) (h2:l.length≤3000) (h3:-2≤n) (h4:n≤202) :
 stK G x2 0 [.int .i64 n,v] (fun H3=>ldI .i64 H3 x2 0 (fun v4=>ld1 H3 x2 1 (fun v5=>K (.tuple ⟨[.agg ⟨[.int .i64 v4,v5]⟩,w]⟩) H3))):=
 put_graph (K:=fun v G=>K (.tuple ⟨[v,w]⟩) G) o l1 hx hv (Nat.lt_succ_self _) fun G' b' lG eG=>k v n es w l G' lG (eG.less (by omega)) ((hw.but b' (by omega)).less (by omega)) h1 h2 h3 h4
end Go.Proofs
namespace Go.Proofs
open Go.Abs

end Go.Proofs
namespace Go.Proofs
open Go.Abs

variable {es:List (Int × Int)} {l:List Int} {n:Int}

end Go.Proofs
namespace Go.Proofs
open Go.Abs

variable {es:List (Int × Int)} {p:Nat→Bool} {l c O:List Int} {cs:List (List Int)} {n:Int} {e:Nat}

end Go.Proofs
namespace Go.Proofs
open Go.Abs

variable {H G:AHeap} {v u f w:Value} {l m c:List Int} {es fs:List (Int × Int)} {K:Value→AHeap→Prop} {ls L:List (List Int)} {bm:Nat}

end Go.Proofs
namespace Go.Proofs
open Go.Abs

variable {l m c:List Int} {es fs:List (Int × Int)} {ls L:List (List Int)} {n:Int}

end Go.Proofs
namespace Go.Proofs
open Go.Abs

variable {H G:AHeap} {v u f:Value} {l m c D:List Int} {es fs:List (Int × Int)} {K:Value→AHeap→Prop} {A A':Nat→Prop} {B:Nat} {ls ms:List (List Int)}

end Go.Proofs
namespace Go.Proofs
open Go.Abs

variable {H G:AHeap} {v u f:Value} {l m c D:List Int} {es fs:List (Int × Int)} {K:Value→AHeap→Prop} {A A':Nat→Prop} {B:Nat} {ls ms:List (List Int)}

end Go.Proofs
namespace Go.Proofs
open Go.Abs

variable {H G:AHeap} {v u f:Value} {l m c D:List Int} {es fs:List (Int × Int)} {K:Value→AHeap→Prop} {A A':Nat→Prop} {B:Nat} {ls ms:List (List Int)}

end Go.Proofs
namespace Go.Proofs
open Go.Abs

variable {H G:AHeap} {v u f:Value} {l m c D:List Int} {es fs:List (Int × Int)} {K:Value→AHeap→Prop}

end Go.Proofs
namespace Go.Proofs
open Go.Abs

variable {es:List (Int × Int)} {p:Nat→Bool} {l c O:List Int} {L:List (List Int)} {n:Int} {e:Nat}

-- covers
end Go.Proofs
namespace Go.Proofs
open Go.Abs

variable {H G G' Hb H0:AHeap} {v u f w:Value} {l m c D:List Int} {es fs:List (Int × Int)} {K:Value→AHeap→Prop} {bs:Nat} {n:Int}

end Go.Proofs
namespace Go.Proofs
open Go.Abs

variable {H G G' Hb H0:AHeap} {v u f w:Value} {l m D F:List Int} {es fs:List (Int × Int)} {K:Value→AHeap→Prop} {bs b7:Nat} {n q:Int}

theorem l07DrawEven_ok (hs:Src Hb bs H) (h:Sl (bs+1) H v 66 2 (LE es)) (hg:Gd2 n es)
 (k:∀ v' l G,Kb bs H G→Src Hb bs G→Fresh H.length G v' 2 1 (LI l)→IsS l es.length→K v' G) :
 AC Tryz.prog T0 59 [.pointer (some ⟨bs,0,none⟩),.agg ⟨[.int .i64 n,v]⟩] H K:=by
 have hbs:=hs.lt
 have hlen:=hg.len
 apply F59.ac
 unfold F59.B9
 refine newK_f (all_iv (sl_one h)) fun H1 l1 n1 o1=>?_
 unfold F59.B8
 refine ldI_own o1 rfl (ld1_own o1 rfl (l05DrawFlow_ok (hs.le l1) (h.le l1) hg ⟨by decide,by decide⟩ fun x5 F G k1 s1 fF hF hFr=>newK_f rfl fun G2 l2 n2 o2=>?_))
 have kb2:Kb bs H G2:=((Kb.of_le l1).trans k1).trans (.of_le l2)
 have hk1:=k1.len
 obtain ⟨P,hP⟩:∃ P:Nat→Bool,P=fun j=>F.getD j 0==1:=⟨_,rfl⟩
 unfold F59.B7 F59.L2
 refine ⟨fun y5 x6 x7 G'=>x5=y5∧G.length≤G'.length∧Kb bs H G'∧Src Hb bs G'∧Fresh H1.length G' x5 2 1 (LI F)∧∃ i:Nat,x7=i∧i≤es.length∧Fresh G.length G' x6 2 1 (LI (filtB P i)),fun _ _ x7 _=>es.length-x7.toNat,
  ⟨rfl,l2.1,kb2,s1.le l2,fF.le l2,0,rfl,by omega,.inr ⟨_,0,Nat.le_refl _,rfl,o2,rfl⟩⟩,?_⟩
 rintro y5 x6 x7 G' ⟨rfl,hgl,kb,s,fF',i,rfl,hi,f6⟩
 have hfl:=filtB_length P i
 unfold F59.B6
 refine fF'.ints.len (pif_cases (fun hb=>?_) fun hb=>?_)
 ·have hlt:i<es.length:=by have:=of_decide_eq_true hb;omega
  unfold F59.B5
  refine fF'.ints.rd (by omega) (by omega) ?_
  rw [Int.toNat_natCast,show (F.getD i 0==1)=P i by rw [hP]]
  refine pif_cases (fun hc=>?_) fun hc=>?_
  ·unfold F59.B4
   refine f6.sl.pushN E_int (by decide) hgl (n:=1) (ys:=[.int .i64 (i:Int)]) rfl rfl (by simp;omega) (by simp) fun v3 G4 k4 _ _ f4=>?_
   unfold F59.B3
   rw [wrap_id (by omega) (by omega)]
   refine ⟨⟨rfl,by have:=k4.len;omega,kb.keep (k4.less (by omega)),s.keep k4 (by omega),fF'.keep k4 fun b c e=>?_,i+1,by omega,by omega,?_⟩,by simp;omega⟩
   ·have:=(fF.bk_lt (b:=b) (by rw [e];rfl)).2;omega
   ·rw [filtB_succ,if_pos hc];simpa using f4
  ·unfold F59.B3
   rw [wrap_id (by omega) (by omega)]
   exact ⟨⟨rfl,hgl,kb,s,fF',i+1,by omega,by omega,by rw [filtB_succ,hc];simpa using f6⟩,by simp;omega⟩
 ·have hie:i=es.length:=by have:=of_decide_eq_false hb;omega
  subst hie
  unfold F59.B1
  exact k _ _ G' kb s (f6.less (by omega)) (asc_isS (filtB_asc _ _) fun x hx=>by obtain ⟨j,rfl,h1,_⟩:=mem_filtB.1 hx;omega)
theorem l07With_ok (hB:Byts H u l) (hl:l.length≤4096) (k:DrwL H K):AC Tryz.prog T0 43 [u] H K:=by
 apply F43.ac
 unfold F43.B7
 refine newK_f rfl fun H1 l1 n1 o1=>?_
 unfold F43.B6
 refine l01From_ok (hB.le l1) hl fun G1 g1 s1=>?_
 have hs1:=s1.lt
 have hlt:=o1.lt
 have ob1:=o1.le g1
 unfold F43.B5
 refine l01Draw_ok s1 fun v1 n1' es1 G3 k3 s3 f3 g3=>agg2_mk (asI_mk (newK_f rfl fun G4 l4 n4 o4=>stK_f (new:=[.int .i64 n1',v1]) o4 (by simp) (mem_iv (fresh_one f3)) rfl fun G5 b5 o5=>?_))
 have l5:G3.le G5:=b5.le l4 (Nat.le_refl _)
 have h0:=g3.lo;have h1:=g3.hi;have hel:=g3.len
 have k15:Kb H1.length G1 G5:=k3.trans (.of_le l5)
 have f5:Sl (H1.length+1) G5 v1 66 2 (LE es1):=(f3.le l5).sl.less (by omega)
 have s5:=s3.le l5
 have hG3:=k3.len
 have hl5:=l5.1
 unfold F43.B4
 refine ldI_own o5 rfl (ld1_own o5 rfl (l07DrawEven_ok s5 f5 g3 fun w lw G6 k6 s6 fw hS=>?_))
 have hwl:lw.length≤3000:=by have:=hS.short;omega
 have o6:=k6.own o5 (by omega)
 have hG6:=k6.len
 -- the end
 have fin:∀ G y ly,Kb H1.length G6 G→Src H1 H1.length G→Fresh (H1.length+1) G y 2 1 (LI ly)→ly.length≤3000→F43.B1 K H.length (.pointer (some ⟨H1.length,0,none⟩)) G3.length y G:=by
  intro G y ly kG sG fy hly
  have oG:=kG.own o6 (by omega)
  unfold F43.B1
  refine ldI_own oG rfl (ld1_own oG rfl (l01Bad_ok sG (sl_kb (sl_kb f5 k6) kG) g3 fun v2 n2 es2 G9 k9 s9 h9 _ c9 a0 a1=>agg2_mk (asI_mk ?_)))
  have fw9:=fresh_kb fy k9 (by omega)
  refine put_graph (K:=fun v G=>K (.tuple ⟨[v,y]⟩) G) ((((k15.trans k6).trans kG).trans k9).own ob1 (by omega)) (AHeap.le_trans l1 s9.1) (Nat.le_refl _) h9 (by omega) fun G' b' lG eG=>?_
  exact k v2 n2 es2 y ly G' lG (eG.less (by omega)) ((fw9.but b' (by omega)).less (by omega)) c9 hly a0 a1
 unfold F43.B3
 refine l01Next_ok s6 fun r G7 k7 s7 r0 r1 _=>asI_mk (pif_cases (fun hb=>?_) fun hb=>fin G7 w lw k7 s7 ((fresh_kb fw k7 (by omega)).less (by omega)) hwl)
 have o7:=k7.own o6 (by omega)
 unfold F43.B2
 have hv7:=sl_edges (sl_kb (sl_kb f5 k6) k7)
 refine ld1_own o7 rfl (hv7.len (newK_f rfl fun G8 l8 n8 o8=>?_))
 have hs7:=s7.lt
 refine l01Pick_ok (l:=[2,6]) (s7.le l8) (own_ints (l:=[2,6]) o8) (by simp) (by simp) (fun x hx=>by simp at hx;omega) (fun G3 k3=>own_ints (l:=[2,6]) (k3.own o8 (by omega))) fun r' G9 k9 s9 hr=>asI_mk ?_
 have k79:=(Kb.of_le l8).trans k9
 refine ⟨ld1_own (k79.own o7 (by omega)) rfl ⟨rfl,rfl⟩,l03DrawSet_ok s9 ⟨by omega,by omega⟩ fun w2 lw2 G10 k10 s10 fw2 hlw2=>?_⟩
 have hk7:=k7.len
 have hk79:=k79.len
 exact fin G10 w2 lw2 ((k7.trans k79).trans k10) s10 (fw2.less (by omega)) (by omega)
theorem drawCycles_ok (hB:Byts H u l) (hl:l.length≤4096) (k:DrwL H K):AC Tryz.prog T0 6 [u] H K:=by
 apply F6.ac
 unfold F6.B3
 refine newK_f rfl fun H1 l1 n1 o1=>?_
 unfold F6.B2
 refine l07With_ok (hB.le l1) hl fun v2 n2 es2 w2 l2 G2 g2 h2 f2 c1 c2 c3 c4=>tup2_mk (agg2_mk (asI_mk (newK_f rfl fun G4 l4 n4 o4=>stK_f (new:=[.int .i64 n2,v2]) o4 (by simp) (mem_iv (sl_one h2)) rfl fun G5 b5 o5=>?_)))
 have l5:G2.le G5:=b5.le l4 (Nat.le_refl _)
 unfold F6.B1
 refine ldI_own o5 rfl (ld1_own o5 rfl ?_)
 rw [n1] at h2 f2
 exact with_tail k (AHeap.le_trans (AHeap.le_trans l1 g2) l5) (Nat.le_refl _) ((o1.le g2).le l5) (h2.le l5) (f2.le l5) c1 c2 c3 c4
theorem drawIsEven_ok (hB:Byts H u l) (hl:l.length≤4096) (k:DrwL H K):AC Tryz.prog T0 20 [u] H K:=by
 apply F20.ac
 unfold F20.B3
 refine newK_f rfl fun H1 l1 n1 o1=>?_
 unfold F20.B2
 refine l07With_ok (hB.le l1) hl fun v2 n2 es2 w2 l2 G2 g2 h2 f2 c1 c2 c3 c4=>tup2_mk (agg2_mk (asI_mk (newK_f rfl fun G4 l4 n4 o4=>stK_f (new:=[.int .i64 n2,v2]) o4 (by simp) (mem_iv (sl_one h2)) rfl fun G5 b5 o5=>?_)))
 have l5:G2.le G5:=b5.le l4 (Nat.le_refl _)
 unfold F20.B1
 refine ldI_own o5 rfl (ld1_own o5 rfl ?_)
 rw [n1] at h2 f2
 exact with_tail k (AHeap.le_trans (AHeap.le_trans l1 g2) l5) (Nat.le_refl _) ((o1.le g2).le l5) (h2.le l5) (f2.le l5) c1 c2 c3 c4
def DrwM (H:AHeap) (K:Value→AHeap→Prop):Prop:=∀ v n es w l y m G,H.le G→Sl H.length G v 66 2 (LE es)→Fresh H.length G w 2 1 (LI l)→Fresh H.length G y 2 1 (LI m)→es.length≤2000→l.length≤3000→m.length≤3000→K (.tuple ⟨[.agg ⟨[.int .i64 n,v]⟩,w,y]⟩) G
theorem drawSum_ok (hB:Byts H u l) (hl:l.length≤4096) (k:DrwM H K):AC Tryz.prog T0 13 [u] H K:=by
 apply F13.ac
 unfold F13.B8
 refine newK_f rfl fun H1 l1 n1 o1=>?_
 unfold F13.B7
 refine l01From_ok (hB.le l1) hl fun G1 g1 s1=>?_
 have hs1:=s1.lt
 have hlt:=o1.lt
 have ob1:=o1.le g1
 unfold F13.B6
 refine l01Draw_ok s1 fun v1 n1' es1 G3 k3 s3 f3 g3=>agg2_mk (asI_mk (newK_f rfl fun G4 l4 n4 o4=>stK_f (new:=[.int .i64 n1',v1]) o4 (by simp) (mem_iv (fresh_one f3)) rfl fun G5 b5 o5=>?_))
 have l5:G3.le G5:=b5.le l4 (Nat.le_refl _)
 have h0:=g3.lo;have h1:=g3.hi;have hel:=g3.len
 have k15:Kb H1.length G1 G5:=k3.trans (.of_le l5)
 have f5:Sl (H1.length+1) G5 v1 66 2 (LE es1):=(f3.le l5).sl.less (by omega)
 have s5:=s3.le l5
 have hG3:=k3.len
 have hl5:=l5.1
 unfold F13.B5
 refine ldI_own o5 rfl (ld1_own o5 rfl (l07DrawEven_ok s5 f5 g3 fun w lw G6 k6 s6 fw hS=>?_))
 have hwl:lw.length≤3000:=by have:=hS.short;omega
 have o6:=k6.own o5 (by omega)
 have hG6:=k6.len
 unfold F13.B4
 refine ldI_own o6 rfl (ld1_own o6 rfl (l07DrawEven_ok s6 (sl_kb f5 k6) g3 fun y ly G7 k7 s7 fy hS2=>?_))
 have hyl:ly.length≤3000:=by have:=hS2.short;omega
 have o7:=k7.own o6 (by omega)
 have hG7:=k7.len
 have fw7:Fresh (H1.length+1) G7 w 2 1 (LI lw):=(fresh_kb fw k7 (by omega)).less (by omega)
 -- the end
 have fin:∀ G y ly,Kb H1.length G7 G→Src H1 H1.length G→Fresh (H1.length+1) G y 2 1 (LI ly)→ly.length≤3000→F13.B1 K H.length (.pointer (some ⟨H1.length,0,none⟩)) G3.length w y G:=by
  intro G y ly kG sG fy hly
  have oG:=kG.own o7 (by omega)
  unfold F13.B1
  refine ldI_own oG rfl (ld1_own oG rfl (l01Bad_ok sG (sl_kb (sl_kb (sl_kb f5 k6) k7) kG) g3 fun v2 n2 es2 G9 k9 s9 h9 _ c9 a0 a1=>agg2_mk (asI_mk ?_)))
  have fw9:=fresh_kb (fresh_kb fw7 kG (by omega)) k9 (by omega)
  have fy9:=fresh_kb fy k9 (by omega)
  refine put_graph (K:=fun v G=>K (.tuple ⟨[v,w,y]⟩) G) (((((k15.trans k6).trans k7).trans kG).trans k9).own ob1 (by omega)) (AHeap.le_trans l1 s9.1) (Nat.le_refl _) h9 (by omega) fun G' b' lG eG=>?_
  exact k v2 n2 es2 w lw y ly G' lG (eG.less (by omega)) ((fw9.but b' (by omega)).less (by omega)) ((fy9.but b' (by omega)).less (by omega)) c9 hwl hly
 unfold F13.B3
 refine l01Next_ok s7 fun r G8 k8 s8 r0 r1 _=>asI_mk (pif_cases (fun hb=>?_) fun hb=>fin G8 y ly k8 s8 ((fresh_kb fy k8 (by omega)).less (by omega)) hyl)
 unfold F13.B2
 have hv8:=sl_edges (sl_kb (sl_kb (sl_kb f5 k6) k7) k8)
 have hk8:=k8.len
 refine ld1_own (k8.own o7 (by omega)) rfl (hv8.len (l03DrawSet_ok s8 ⟨by omega,by omega⟩ fun w2 lw2 G10 k10 s10 fw2 hlw2=>?_))
 exact fin G10 w2 lw2 (k8.trans k10) s10 (fw2.less (by omega)) (by omega)
theorem drawAll_ok (hB:Byts H u l) (hl:l.length≤4096) (k:DrwK H K):AC Tryz.prog T0 16 [u] H K:=by
 apply F16.ac
 unfold F16.B5
 refine newK_f rfl fun H1 l1 n1 o1=>?_
 unfold F16.B4
 refine l01From_ok (hB.le l1) hl fun G1 g1 s1=>?_
 have hs1:=s1.lt
 have hlt:=o1.lt
 have ob1:=o1.le g1
 unfold F16.B3
 refine l01Next_ok s1 fun r G2 k2 s2 _ _ _=>asI_mk (pif_cases (fun hb=>?_) fun hb=>?_)
 ·unfold F16.B2
  have hk2:=k2.len
  refine l01Spoil_ok s2 fun v2 n2 es2 G3 k3 s3 h3 c3 _ _=>agg2_mk (asI_mk ?_)
  exact put_graph ((k2.trans k3).own ob1 (by omega)) (AHeap.le_trans l1 s3.1) (Nat.le_refl _) h3 (by omega) fun G' _ lG eG=>k v2 n2 es2 G' lG (eG.less (by omega)) c3
 ·unfold F16.B1
  have hk2:=k2.len
  refine l01Small_ok s2 fun v2 n2 es2 G3 k3 s3 f3 g3 a b=>agg2_mk (asI_mk (l01Bad_ok s3 (f3.sl.less (by omega)) (g3.two a (by omega)) fun v4 n4 es4 G4 k4 s4 h4 _ c4 _ _=>agg2_mk (asI_mk ?_)))
  exact put_graph (((k2.trans k3).trans k4).own ob1 (by omega)) (AHeap.le_trans l1 s4.1) (Nat.le_refl _) h4 (by omega) fun G' _ lG eG=>k v4 n4 es4 G' lG (eG.less (by omega)) c4
theorem drawIsCycle_ok (hB:Byts H u l) (hl:l.length≤4096) (k:DrwL H K):AC Tryz.prog T0 22 [u] H K:=by
 apply F22.ac
 unfold F22.B10
 refine newK_f rfl fun H1 l1 n1 o1=>?_
 unfold F22.B9
 refine l01From_ok (hB.le l1) hl fun G1 g1 s1=>?_
 have hs1:=s1.lt
 have hlt:=o1.lt
 have ob1:=o1.le g1
 unfold F22.B8
 refine l01Draw_ok s1 fun v1 n1' es1 G3 k3 s3 f3 g3=>agg2_mk (asI_mk (newK_f rfl fun G4 l4 n4 o4=>stK_f (new:=[.int .i64 n1',v1]) o4 (by simp) (mem_iv (fresh_one f3)) rfl fun G5 b5 o5=>?_))
 have l5:G3.le G5:=b5.le l4 (Nat.le_refl _)
 have h0:=g3.lo;have h1:=g3.hi;have hel:=g3.len
 have k15:Kb H1.length G1 G5:=k3.trans (.of_le l5)
 have f5:Sl (H1.length+1) G5 v1 66 2 (LE es1):=(f3.le l5).sl.less (by omega)
 have s5:=s3.le l5
 have hG3:=k3.len
 have hl5:=l5.1
 unfold F22.B7
 refine ldI_own o5 rfl (ld1_own o5 rfl (l07DrawEven_ok s5 f5 g3 fun w lw G6 k6 s6 fw hS=>?_))
 have hwl:lw.length≤3000:=by have:=hS.short;omega
 have o6:=k6.own o5 (by omega)
 have hG6:=k6.len
 -- the end
 have fin1:∀ G y ly,Kb H1.length G6 G→Src H1 H1.length G→Fresh (H1.length+1) G y 2 1 (LI ly)→ly.length≤3000→F22.B1 K H.length (.pointer (some ⟨H1.length,0,none⟩)) G3.length y G:=by
  intro G y ly kG sG fy hly
  have oG:=kG.own o6 (by omega)
  unfold F22.B1
  refine ldI_own oG rfl (ld1_own oG rfl (l01Bad_ok sG (sl_kb (sl_kb f5 k6) kG) g3 fun v2 n2 es2 G9 k9 s9 h9 _ c9 a0 a1=>agg2_mk (asI_mk ?_)))
  have fw9:=fresh_kb fy k9 (by omega)
  refine put_graph (K:=fun v G=>K (.tuple ⟨[v,y]⟩) G) ((((k15.trans k6).trans kG).trans k9).own ob1 (by omega)) (AHeap.le_trans l1 s9.1) (Nat.le_refl _) h9 (by omega) fun G' b' lG eG=>?_
  exact k v2 n2 es2 y ly G' lG (eG.less (by omega)) ((fw9.but b' (by omega)).less (by omega)) c9 hly a0 a1
 have fin:∀ G y ly,Kb H1.length G6 G→Src H1 H1.length G→Fresh (H1.length+1) G y 2 1 (LI ly)→ly.length≤3000→F22.B3 K H.length (.pointer (some ⟨H1.length,0,none⟩)) G3.length y G:=by
  intro G y ly kG sG fy hly
  unfold F22.B3
  refine l01Next_ok sG fun r G7 k7 s7 r0 r1 _=>asI_mk (pif_cases (fun hb=>?_) fun hb=>fin1 G7 y ly (kG.trans k7) s7 (fresh_kb fy k7 (by omega)) hly)
  unfold F22.B2
  have hv7:=sl_edges (sl_kb (sl_kb f5 k6) (kG.trans k7))
  have hk7:=(kG.trans k7).len
  have hs6:=s6.lt
  refine ld1_own ((kG.trans k7).own o6 (by omega)) rfl (hv7.len (l03DrawSet_ok s7 ⟨by omega,by omega⟩ fun w2 lw2 G10 k10 s10 fw2 hlw2=>?_))
  exact fin1 G10 w2 lw2 ((kG.trans k7).trans k10) s10 (fw2.less (by omega)) (by omega)
 unfold F22.B6
 have hend:∀ e,e<es1.length→0≤(es1.getD e (0,0)).1∧(es1.getD e (0,0)).1<n1'∧0≤(es1.getD e (0,0)).2∧(es1.getD e (0,0)).2<n1':=fun e he=>by
  rw [getD_of he];exact g3.rng _ (List.getElem_mem he)
 have fw6:Fresh (H1.length+1) G6 w 2 1 (LI lw):=fw.less (by omega)
 refine ldI_own o6 rfl (ld1_own o6 rfl (l07CyclesG_ok (sl_edges (sl_kb f5 k6)) (by omega) (by omega) (by omega) hend fw.ints hS fun x7 G7 l7 hR=>?_))
 have s7:=s6.le l7
 have fw7:=fw6.le l7
 unfold F22.B5
 refine hR.len (pif_cases (fun hz=>?_) fun _=>fin G7 w lw (.of_le l7) s7 fw7 hwl)
 refine l01Next_ok s7 fun r G8 k8 s8 _ _ _=>asI_mk (pif_cases (fun _=>?_) fun _=>fin G8 w lw ((Kb.of_le l7).trans k8) s8 (fresh_kb fw7 k8 (by omega)) hwl)
 have hpos:0<(cycOf es1 (bitB lw) lw).length:=by have:=of_decide_eq_true hz;omega
 unfold F22.B4
 have hs6:=s6.lt
 have hR8:=hR.move (G:=G8) fun b o ha _ ho=>k8.old b o (by omega) ho
 refine hR8.len (l01Next_ok s8 fun t G9 k9 s9 q0 q1 _=>asI_mk ?_)
 have hq:=q1 (by omega)
 have hR9:=hR8.move (G:=G9) fun b o ha _ ho=>k9.old b o (by omega) ho
 obtain ⟨t,rfl⟩:∃ t':Nat,t=t':=⟨t.toNat,by omega⟩
 have htl:t<(cycOf es1 (bitB lw) lw).length:=by omega
 obtain ⟨vs,r1,r2,r3,r4⟩:=hR9
 obtain ⟨y,t1,t2,t3⟩:=r4 t htl
 have hyl:((cycOf es1 (bitB lw) lw).getD t []).length≤3000:=by
  rw [getD_of htl]
  have hm:=List.getElem_mem htl
  unfold cycOf at hm ⊢
  obtain ⟨x,_,hx⟩:=List.mem_map.1 hm
  rw [← hx]
  have:(compL es1 (bitB lw) x.toNat).length≤es1.length:=filtB_length _ _
  omega
 rcases r1 with ⟨e,_⟩|⟨b,c,hb,rfl,rb,rl⟩
 ·rw [e] at t1;simp at t1
 have hvl:t<vs.length:=by
  obtain ⟨hh,_⟩:=List.getElem?_eq_some_iff.1 t1;exact hh
 refine own_idx (by omega) (by omega) (ld1_own rb (by rw [Int.toNat_natCast];exact t1) ?_)
 have fy:Fresh (H1.length+1) G9 y 2 1 (LI ((cycOf es1 (bitB lw) lw).getD t [])):=fresh_more t2 fun b hb=>by have:=(t3 b hb).1;omega
 exact fin G9 y _ (((Kb.of_le l7).trans k8).trans k9) s9 fy hyl
end Go.Proofs
namespace Go.Proofs
open Go.Abs

section
variable {es:List (Int × Int)} {p:Nat→Bool} {n:Int} {l:List Int}
theorem degB_le_three (hg:IsG n es) {x:Nat} (hx:(x:Int)<n):degB es p x≤3:=by
 have h3:=hg.three (v:=(x:Int)) (by omega) hx
 rw [← h3]
 unfold degB
 refine nodup_sub (filtB_nodup _ _) fun y hy=>?_
 obtain ⟨j,rfl,h1,h2⟩:=mem_filtB.1 hy
 rw [Bool.and_eq_true] at h2
 exact mem_atL.2 ⟨j,rfl,h1,h2.1⟩
theorem one_part (hs:IsS l es.length) (h1:(cycOf es (bitB l) l).length=1):∃ e:Nat,(∃ r,l=(e:Int)::r)∧e<es.length∧bitB l e=true∧(∀ j,bitB l j=true↔j<es.length∧Rch (eAdj es (bitB l)) e j)∧∀ j,j<e→¬ Rch (eAdj es (bitB l)) e j:=by
 unfold cycOf at h1
 rw [List.length_map] at h1
 obtain ⟨y,hy⟩:∃ y,l.filter (fun x=>cLeadB es (bitB l) x.toNat)=[y]:=by
  cases hf:l.filter (fun x=>cLeadB es (bitB l) x.toNat) with
  | nil=>rw [hf] at h1;cases h1
  | cons a r=>
   cases r with
   | nil=>exact ⟨a,rfl⟩
   | cons b r=>rw [hf] at h1;simp at h1
 have hym:y∈l.filter (fun x=>cLeadB es (bitB l) x.toNat):=by rw [hy];simp
 obtain ⟨hyl,hyc⟩:=List.mem_filter.1 hym
 have hyr:=hs.range y hyl
 obtain ⟨e,rfl⟩:∃ e:Nat,y=e:=⟨y.toNat,by omega⟩
 rw [Int.toNat_natCast] at hyc
 have hel:e<es.length:=by omega
 have hpe:bitB l e=true:=(bitB_mem hs e).2 hyl
 have hall:∀ j,bitB l j=true→Rch (eAdj es (bitB l)) e j:=by
  intro j hj
  have lead:∀ i,bitB l i=true→cLead es (bitB l) i→i=e:=fun i hi hc=>by
   have:(i:Int)∈l.filter (fun x=>cLeadB es (bitB l) x.toNat):=List.mem_filter.2 ⟨(bitB_mem hs i).1 hi,by rw [Int.toNat_natCast];exact cLeadB_iff.2 hc⟩
   rw [hy,List.mem_singleton] at this;omega
  by_cases hc:cLead es (bitB l) j
  ·rw [lead j hj hc];exact .refl
  ·obtain ⟨i,_,h2,h3,h4⟩:=lead_of hj hc
   rw [← lead i h2 h3];exact h4
 have hiff:∀ j,bitB l j=true↔j<es.length∧Rch (eAdj es (bitB l)) e j:=fun j=>⟨fun h=>⟨bitB_lt hs h,hall j h⟩,fun h=>(eRch_in h.2 ⟨hel,hpe⟩).2⟩
 have hlow:∀ j,j<e→¬ Rch (eAdj es (bitB l)) e j:=fun j hj hr=>by
  have hin:=eRch_in hr ⟨hel,hpe⟩
  exact cLeadB_iff.1 hyc j hj hin.2 (eRch_symm hr ⟨hel,hpe⟩)
 refine ⟨e,?_,hel,hpe,hiff,hlow⟩
 cases hl:l with
 | nil=>rw [hl] at hyl;cases hyl
 | cons a r=>
  refine ⟨r,?_⟩
  have ha:=hs.range a (by rw [hl];simp)
  have hasc:=hs.asc
  unfold Asc at hasc
  have hyl':=hyl
  rw [hl] at hasc hyl'
  rcases List.mem_cons.1 hyl' with h|h
  ·rw [h]
  ·have hlt:=(List.pairwise_cons.1 hasc).1 _ h
   have hba:bitB l a.toNat=true:=(bitB_mem hs _).2 (by rw [hl];simp;left;omega)
   exact absurd ((hiff _).1 hba).2 (hlow _ (by omega))
end
theorem nodup_subG {α:Type} [BEq α] [LawfulBEq α] {l m:List α} (h:l.Nodup) (hs:∀ x∈l,x∈m):l.length≤m.length:=by
 induction l generalizing m with
 | nil=>simp
 | cons a l ih=>
  rw [List.nodup_cons] at h
  have ha:=hs a (by simp)
  have:=ih (m:=m.erase a) h.2 fun x hx=>by
   rw [List.mem_erase_of_ne (by rintro rfl;exact h.1 hx)];exact hs x (by simp [hx])
  rw [List.length_erase_of_mem ha] at this
  have:=List.length_pos_of_mem ha
  simp;omega
end Go.Proofs
namespace Go.Proofs
open Go.Abs

variable {es:List (Int × Int)} {p q:Nat→Bool} {n:Int} {e en:Nat}

def oe (es:List (Int × Int)) (i x:Nat):Nat:=((es.getD i (0,0)).1+(es.getD i (0,0)).2-x).toNat
theorem oe_of (he:EndsIn n es) {i x:Nat} (hi:i<es.length) (ho:on (es.getD i (0,0)) x=true) :
 (es.getD i (0,0)).1+(es.getD i (0,0)).2-x=(oe es i x:Nat)∧oe es i x≠x∧(oe es i x:Int)<n∧(x:Int)<n∧∀ y:Nat,on (es.getD i (0,0)) y=decide (y=x∨y=oe es i x):=by
 obtain ⟨a,b,hab,hne,ha,hb⟩:=he.get i hi
 unfold oe
 rw [hab] at ho ⊢
 simp only [on,Bool.or_eq_true,beq_iff_eq] at ho
 simp only
 have key:∀ y:Nat,on ((a:Int),(b:Int)) (y:Int)=decide (y=a∨y=b):=fun y=>by
  unfold on
  by_cases h1:y=a
  ·subst h1;simp
  ·by_cases h2:y=b
   ·subst h2;simp
   ·have g1:¬ (a:Int)=y:=by omega
    have g2:¬ (b:Int)=y:=by omega
    simp [h1,h2,g1,g2]
 rcases ho with h|h
 ·have:a=x:=by omega
  subst this
  have h1:((a:Int)+b-a).toNat=b:=by omega
  rw [h1]
  exact ⟨by omega,hne.symm,hb,ha,key⟩
 ·have:b=x:=by omega
  subst this
  have h1:((a:Int)+b-b).toNat=a:=by omega
  rw [h1]
  exact ⟨by omega,hne,ha,hb,fun y=>by rw [key];exact decide_eq_decide.2 Or.comm⟩
def pwL (es:List (Int × Int)) (e en:Nat):Nat→Nat→(Nat→Bool)→List (List Int)
 | 0,_,_=>[]
 | f+1,a,M=>if a=en then [[]] else (atL es a).flatMap fun i=>if i≤(e:Int)∨M (oe es i.toNat a)=true then [] else (pwL es e en f (oe es i.toNat a) (insB M (oe es i.toNat a))).map (i::·)
theorem wk_cons {f a:Nat} {M:Nat→Bool} {l:List Int} (ha:a≠en) (h:l∈pwL es e en (f+1) a M) :
 ∃ (i:Nat) (r:List Int),l=(i:Int)::r∧i<es.length∧on (es.getD i (0,0)) a=true∧e<i∧M (oe es i a)=false∧r∈pwL es e en f (oe es i a) (insB M (oe es i a)):=by
 rw [pwL,if_neg ha,List.mem_flatMap] at h
 obtain ⟨x,hx,hl⟩:=h
 obtain ⟨i,rfl,hi,ho⟩:=mem_atL.1 hx
 split at hl
 ·cases hl
 ·rename_i hc
  obtain ⟨r,hr,rfl⟩:=List.mem_map.1 hl
  rw [Int.toNat_natCast] at hc hr
  refine ⟨i,r,rfl,hi,ho,by omega,?_,hr⟩
  cases hm:M (oe es i a) with
  | false=>rfl
  | true=>exact absurd (Or.inr hm) hc
theorem wk_of {f a i:Nat} {M:Nat→Bool} {r:List Int} (ha:a≠en) (hi:i<es.length) (ho:on (es.getD i (0,0)) a=true) (he:e<i) (hM:M (oe es i a)=false)
    (hr:r∈pwL es e en f (oe es i a) (insB M (oe es i a))):(i:Int)::r∈pwL es e en (f+1) a M:=by
  rw [pwL,if_neg ha,List.mem_flatMap]
  refine ⟨(i:Int),mem_atL.2 ⟨i,rfl,hi,ho⟩,?_⟩
  rw [Int.toNat_natCast, if_neg (by rintro (h | h)
                                    · omega
                                    · rw [hM] at h;cases h)]
  exact List.mem_map.2 ⟨r,hr,rfl⟩
structure WkP (n:Int) (es:List (Int × Int)) (e en a:Nat) (M:Nat→Bool) (l:List Int):Prop where
 rng:∀ i∈l,∃ j:Nat,i=j∧j<es.length∧e<j
 nd:l.Nodup
 off:∀ x:Nat,M x=true→x≠a→∀ i∈l,on (es.getD i.toNat (0,0)) x=false
 par:∀ x:Nat,degC es l x%2=((if x=a then 1 else 0)+(if x=en then 1 else 0))%2
 con:∀ p:Nat→Bool,(∀ i∈l,p i.toNat=true)→∀ j:Nat,on (es.getD j (0,0)) a=true→∀ i∈l,Rch (eAdj es p) j i.toNat
theorem wk_prop (hE:EndsIn n es):∀ {f a:Nat} {M:Nat→Bool} {l:List Int},l∈pwL es e en f a M→M a=true→WkP n es e en a M l
 | 0,a,M,l,h,_=>by cases h
 | f+1,a,M,l,h,hM=>by
  by_cases ha:a=en
  ·rw [pwL,if_pos ha,List.mem_singleton] at h
   subst h;subst ha
   exact ⟨fun i hi=>absurd hi (by simp),List.nodup_nil,fun _ _ _ i hi=>absurd hi (by simp),fun x=>by
    show 0%2=_
    split <;> rfl,fun _ _ _ _ i hi=>absurd hi (by simp)⟩
  ·obtain ⟨i,r,rfl,hi,ho,hei,hw,hr⟩:=wk_cons ha h
   have P:=wk_prop hE hr (insB_self _ _)
   obtain ⟨_,hne,_,_,hon⟩:=oe_of hE hi ho
   have hra:∀ k∈r,on (es.getD k.toNat (0,0)) a=false:=P.off a (insB_of hM) (Ne.symm hne)
   refine ⟨fun k hk=>?_,?_,fun x hx hxa k hk=>?_,fun x=>?_,fun p hp j hj k hk=>?_⟩
   ·rcases List.mem_cons.1 hk with rfl|hk
    ·exact ⟨i,rfl,hi,hei⟩
    ·exact P.rng k hk
   ·rw [List.nodup_cons]
    refine ⟨fun hm=>?_,P.nd⟩
    have:=hra _ hm
    rw [Int.toNat_natCast,ho] at this
    cases this
   ·have hxw:x≠oe es i a:=by rintro rfl;rw [hw] at hx;cases hx
    rcases List.mem_cons.1 hk with rfl|hk
    ·rw [Int.toNat_natCast,hon x];simp [hxa,hxw]
    ·exact P.off x (insB_of hx) hxw k hk
   ·have h1:=P.par x
    rw [degC_cons,hon x]
    by_cases e1:x=a
    ·subst e1
     have g1:¬ x=oe es i x:=fun e=>hne e.symm
     rw [if_neg g1] at h1
     simp [ha] at h1 ⊢;omega
    ·by_cases e2:x=oe es i a
     ·simp only [e1,e2,or_true,decide_true,if_true] at h1 ⊢
      rw [if_neg (fun h=>hne h)]
      omega
     ·simp only [e1,e2,or_false,decide_false,if_false] at h1 ⊢
      simpa using h1
   ·have hs:Rch (eAdj es p) j i:=.step .refl ⟨hi,by simpa using hp (i:Int) (by simp),a,hj,ho⟩
    rcases List.mem_cons.1 hk with rfl|hk
    ·rwa [Int.toNat_natCast]
    ·exact hs.trans (P.con p (fun k hk=>hp k (by simp [hk])) i (by rw [hon];simp) k hk)
theorem wk_same (hE:EndsIn n es):∀ {f a:Nat} {M:Nat→Bool} {l l':List Int},l∈pwL es e en f a M→l'∈pwL es e en f a M→M a=true→(∀ x,x∈l↔x∈l')→l=l'
 | 0,a,M,l,l',h,_,_,_=>by cases h
 | f+1,a,M,l,l',h,h',hM,hx=>by
  by_cases ha:a=en
  ·rw [pwL,if_pos ha,List.mem_singleton] at h h'
   rw [h,h']
  ·have P:=wk_prop hE h hM
   have P':=wk_prop hE h' hM
   obtain ⟨i,r,rfl,hi,ho,hei,hw,hr⟩:=wk_cons ha h
   obtain ⟨i',r',rfl,hi',ho',hei',hw',hr'⟩:=wk_cons ha h'
   obtain ⟨_,hne',_⟩:=oe_of hE hi' ho'
   have hra':∀ k∈r',on (es.getD k.toNat (0,0)) a=false:=(wk_prop hE hr' (insB_self _ _)).off a (insB_of hM) (Ne.symm hne')
   have hii:(i:Int)=(i':Int):=by
    rcases List.mem_cons.1 ((hx (i:Int)).1 (by simp)) with h|h
    ·exact h
    ·have:=hra' _ h
     rw [Int.toNat_natCast,ho] at this
     cases this
   obtain rfl:i=i':=by omega
   congr 1
   have n1:=List.nodup_cons.1 P.nd
   have n2:=List.nodup_cons.1 P'.nd
   refine wk_same hE hr hr' (insB_self _ _) fun x=>⟨fun hxr=>?_,fun hxr=>?_⟩
   ·rcases List.mem_cons.1 ((hx x).1 (by simp [hxr])) with h|h
    ·exact absurd (h▸hxr) n1.1
    ·exact h
   ·rcases List.mem_cons.1 ((hx x).2 (by simp [hxr])) with h|h
    ·exact absurd (h▸hxr) n2.1
    ·exact h
theorem nodup_flat {α β:Type} {f:α→List β}:∀ {l:List α},l.Nodup→(∀ a∈l,(f a).Nodup)→(∀ a∈l,∀ b∈l,a≠b→∀ x∈f a,x∉f b)→(l.flatMap f).Nodup
 | [],_,_,_=>List.nodup_nil
 | a::l,h,k,d=>by
  rw [List.nodup_cons] at h
  rw [List.flatMap_cons,List.nodup_append]
  refine ⟨k a (by simp),nodup_flat h.2 (fun b hb=>k b (by simp [hb])) fun b hb c hc=>d b (by simp [hb]) c (by simp [hc]),fun x hx y hy hxy=>?_⟩
  subst hxy
  obtain ⟨b,hb,hxb⟩:=List.mem_flatMap.1 hy
  exact d a (by simp) b (by simp [hb]) (by rintro rfl;exact h.1 hb) x hx hxb
theorem nodup_map_inj {α β:Type} {f:α→β}:∀ {l:List α},l.Nodup→(∀ a∈l,∀ b∈l,f a=f b→a=b)→(l.map f).Nodup
 | [],_,_=>List.nodup_nil
 | a::l,h,k=>by
  rw [List.nodup_cons] at h
  rw [List.map_cons,List.nodup_cons]
  refine ⟨fun hm=>?_,nodup_map_inj h.2 fun x hx y hy=>k x (by simp [hx]) y (by simp [hy])⟩
  obtain ⟨b,hb,he⟩:=List.mem_map.1 hm
  exact h.1 (k b (by simp [hb]) a (by simp) he▸hb)
theorem atL_nodup (x:Int):(atL es x).Nodup:=filtB_nodup _ _
theorem wk_nodup:∀ {f a:Nat} {M:Nat→Bool},(pwL es e en f a M).Nodup
 | 0,a,M=>List.nodup_nil
 | f+1,a,M=>by
  rw [pwL]
  split
  ·simp
  ·refine nodup_flat (atL_nodup _) (fun i _=>?_) fun i _ j _ hij x hx hy=>?_
   ·split
    ·exact List.nodup_nil
    ·exact nodup_map_inj wk_nodup fun a _ b _ h=>(List.cons.inj h).2
   ·split at hx
    ·cases hx
    ·split at hy
     ·cases hy
     ·obtain ⟨r,_,rfl⟩:=List.mem_map.1 hx
      obtain ⟨r',_,h⟩:=List.mem_map.1 hy
      exact hij (List.cons.inj h).1.symm
theorem wk_some (hE:EndsIn n es):∀ {f a:Nat} {M p:Nat→Bool},unseen M n.toNat<f→M a=true→(a:Int)<n→(∀ j,j<es.length→p j=true→e<j)→
 (∀ x:Nat,degB es p x%2=((if x=a then 1 else 0)+(if x=en then 1 else 0))%2)→(∀ x:Nat,degB es p x≤2)→(∀ x:Nat,M x=true→x≠a→degB es p x=0)→
 ∃ l∈pwL es e en f a M,∀ i∈l,p i.toNat=true
 | 0,a,M,p,hf,_,_,_,_,_,_=>by omega
 | f+1,a,M,p,hf,hM,han,hp,c2,c3,c4=>by
  by_cases ha:a=en
  ·exact ⟨[],by rw [pwL,if_pos ha];simp,fun i hi=>absurd hi (by simp)⟩
  ·have hda:=c2 a
   rw [if_pos rfl,if_neg ha] at hda
   obtain ⟨i,hi,hpi,ho⟩:=deg_some (es:=es) (p:=p) (w:=(a:Int)) (by omega)
   obtain ⟨_,hne,hwn,_,hon⟩:=oe_of hE hi ho
   have hw:M (oe es i a)=false:=by
    cases hm:M (oe es i a) with
    | false=>rfl
    | true=>
     have:=deg_zero (c4 _ hm hne) hi hpi
     rw [hon] at this
     simp at this
   have hdel:=fun x:Nat=>deg_del (es:=es) (p:=p) (w:=(x:Int)) hi hpi
   have hun:=unseen_ins (S:=M) (y:=oe es i a) (n:=n.toNat) (by omega) hw
   obtain ⟨l,hl,hlp⟩:=wk_some hE (f:=f) (a:=oe es i a) (M:=insB M (oe es i a)) (p:=fun j=>p j&&!decide (j=i)) (by omega) (insB_self _ _) hwn
    (fun j hj hpj=>hp j hj (by simp at hpj;exact hpj.1)) (fun x=>by
     have h1:=hdel x
     have h2:=c2 x
     rw [hon x] at h1
     by_cases e1:x=a
     ·subst e1
      have g1:¬ x=oe es i x:=fun e=>hne e.symm
      simp [g1] at h1 h2 ⊢;omega
     ·by_cases e2:x=oe es i a
      ·have g1:¬ oe es i a=a:=hne
       simp only [e2,g1,or_true,decide_true,if_true,if_false] at h1 h2 ⊢;omega
      ·simp [e1,e2] at h1 h2 ⊢;omega) (fun x=>by have:=hdel x;have:=c3 x;omega) (fun x hx hxw=>by
     have h1:=hdel x
     have h2:=c2 x
     have h3:=c3 x
     by_cases e1:x=a
     ·subst e1
      rw [ho] at h1
      rw [if_pos rfl,if_neg ha] at h2
      simp at h1;omega
     ·have:=c4 x (insB_ne hx hxw) e1
      omega)
   refine ⟨(i:Int)::l,wk_of ha hi ho (hp i hi hpi) hw hl,fun k hk=>?_⟩
   rcases List.mem_cons.1 hk with rfl|hk
   ·rwa [Int.toNat_natCast]
   ·have:=hlp k hk;simp at this;exact this.1
end Go.Proofs
namespace Go.Proofs
open Go.Abs

variable {es:List (Int × Int)} {p q:Nat→Bool} {n:Int} {e en:Nat}

def rowOf (m:Nat) (l:List Int):List Int:=filtB (fun j=>decide ((j:Int)∈l)) m
def eaN (es:List (Int × Int)) (e:Nat):Nat:=(es.getD e (0,0)).1.toNat
def ebN (es:List (Int × Int)) (e:Nat):Nat:=(es.getD e (0,0)).2.toNat
def metB (b:Nat):Nat→Bool:=fun j=>decide (j=b)
def cyE (n:Int) (es:List (Int × Int)) (e:Nat):List (List Int):=(pwL es e (eaN es e) (n.toNat+1) (ebN es e) (metB (ebN es e))).map fun l=>rowOf es.length ((e:Int)::l)
def cyRows (n:Int) (es:List (Int × Int)):List (List Int):=(List.range es.length).flatMap (cyE n es)
theorem mem_rowOf {m:Nat} {l:List Int} (h:∀ i∈l,∃ j:Nat,i=j∧j<m) {x:Int}:x∈rowOf m l↔x∈l:=by
 unfold rowOf
 rw [mem_filtB]
 constructor
 ·rintro ⟨j,rfl,_,h2⟩;exact of_decide_eq_true h2
 ·intro hx
  obtain ⟨j,rfl,hj⟩:=h x hx
  exact ⟨j,rfl,hj,decide_eq_true hx⟩
theorem rowOf_isS {m:Nat} {l:List Int}:IsS (rowOf m l) m:=asc_isS (filtB_asc _ _) fun x hx=>by
 obtain ⟨j,rfl,h1,_⟩:=mem_filtB.1 hx
 omega
theorem ends_eq (he:EndsIn n es) (hi:e<es.length):es.getD e (0,0)=((eaN es e:Int),(ebN es e:Int))∧eaN es e≠ebN es e∧(eaN es e:Int)<n∧(ebN es e:Int)<n∧∀ y:Nat,on (es.getD e (0,0)) y=decide (y=eaN es e∨y=ebN es e):=by
 obtain ⟨a,b,hab,hne,ha,hb⟩:=he.get e hi
 unfold eaN ebN
 rw [hab]
 simp only [Int.toNat_natCast]
 refine ⟨trivial,hne,ha,hb,fun y=>?_⟩
 unfold on
 by_cases h1:y=a
 ·subst h1;simp
 ·by_cases h2:y=b
  ·subst h2;simp
  ·have g1:¬ (a:Int)=y:=by omega
   have g2:¬ (b:Int)=y:=by omega
   simp [h1,h2,g1,g2]
theorem on_nat (he:EndsIn n es) (hi:e<es.length) {v:Int} (h:on (es.getD e (0,0)) v=true):∃ x:Nat,v=x∧(x:Int)<n:=by
 obtain ⟨a,b,hab,hne,ha,hb⟩:=he.get e hi
 rw [hab] at h
 simp only [on,Bool.or_eq_true,beq_iff_eq] at h
 rcases h with h|h
 ·exact ⟨a,h.symm,ha⟩
 ·exact ⟨b,h.symm,hb⟩
theorem degB_list:∀ {l:List Int},l.Nodup→(∀ i∈l,∃ j:Nat,i=j∧j<es.length)→∀ x:Nat,degB es (fun j=>decide ((j:Int)∈l)) x=degC es l x
 | [],_,_,x=>by rw [degB_cn,cn_zero fun j hj=>by simp];rfl
 | a::l,hn,hl,x=>by
  rw [List.nodup_cons] at hn
  obtain ⟨i,rfl,hi⟩:=hl a (by simp)
  have ih:=degB_list hn.2 (fun j hj=>hl j (by simp [hj])) x
  rw [degC_cons,← ih,← deg_del (p:=fun j=>decide ((j:Int)∈(i:Int)::l)) hi (by simp)]
  congr 1
  refine deg_congr fun j hj=>?_
  by_cases e:j=i
  ·subst e;simp [hn.1]
  ·have:¬ (j:Int)=i:=by omega
   simp [e,this]
theorem deg_out (he:EndsIn n es) {x:Nat} (hx:¬ (x:Int)<n):degB es p x=0:=by
 apply Classical.byContradiction
 intro h
 obtain ⟨i,h1,_,h3⟩:=deg_some (Nat.pos_of_ne_zero h)
 obtain ⟨y,hy,hyn⟩:=on_nat he h1 h3
 omega
structure CyP (n:Int) (es:List (Int × Int)) (e:Nat) (x:List Int):Prop where
 s:IsS x es.length
 ev:EvenS n es (bitB x)
 mem:(e:Int)∈x
 lo:∀ i∈x,(e:Int)≤i
 con:∀ j,bitB x j=true→Rch (eAdj es (bitB x)) e j
theorem cy_way (he:EndsIn n es) (hi:e<es.length) {l:List Int} (hl:l∈pwL es e (eaN es e) (n.toNat+1) (ebN es e) (metB (ebN es e))) :
 CyP n es e (rowOf es.length ((e:Int)::l))∧(e:Int)∉l∧∀ x,x∈rowOf es.length ((e:Int)::l)↔x∈(e:Int)::l:=by
 obtain ⟨_,hne,han,hbn,hon⟩:=ends_eq he hi
 have P:=wk_prop he hl (by simp [metB])
 have hr:∀ i∈(e:Int)::l,∃ j:Nat,i=j∧j<es.length:=fun i hi'=>by
  rcases List.mem_cons.1 hi' with rfl|h
  ·exact ⟨e,rfl,hi⟩
  ·obtain ⟨j,h1,h2,_⟩:=P.rng i h;exact ⟨j,h1,h2⟩
 have hel:(e:Int)∉l:=fun h=>by
  obtain ⟨j,h1,_,h3⟩:=P.rng _ h
  omega
 have hs:IsS (rowOf es.length ((e:Int)::l)) es.length:=rowOf_isS
 have hb:∀ j,bitB (rowOf es.length ((e:Int)::l)) j=true↔(j:Int)∈(e:Int)::l:=fun j=>(bitB_mem hs j).trans (mem_rowOf hr)
 refine ⟨⟨hs,fun x hx=>?_,(mem_rowOf hr).2 (by simp),fun i hi'=>?_,fun j hj=>?_⟩,hel,fun x=>mem_rowOf hr⟩
 ·rw [deg_congr (q:=fun j=>decide ((j:Int)∈(e:Int)::l)) fun j hj=>by
   rw [Bool.eq_iff_iff,hb,decide_eq_true_iff],degB_list (List.nodup_cons.2 ⟨hel,P.nd⟩) hr,degC_cons,hon x]
  have:=P.par x
  by_cases e1:x=eaN es e
  ·have e2:¬ x=ebN es e:=by omega
   simp only [e1,e2,if_true,if_false,true_or,decide_true] at this ⊢
   rw [if_neg hne] at this
   omega
  ·by_cases e2:x=ebN es e
   ·simp only [e2,or_true,decide_true,if_true] at this ⊢
    rw [if_neg (Ne.symm hne)] at this
    omega
   ·simp [e1,e2] at this ⊢;omega
 ·rcases List.mem_cons.1 ((mem_rowOf hr).1 hi') with rfl|h
  ·exact Int.le_refl _
  ·obtain ⟨j,rfl,_,h3⟩:=P.rng i h;omega
 ·rcases List.mem_cons.1 ((hb j).1 hj) with h|h
  ·have:j=e:=by omega
   rw [this];exact .refl
  ·have:=P.con (bitB (rowOf es.length ((e:Int)::l))) (fun i hi'=>by
    obtain ⟨k,rfl,_⟩:=P.rng i hi'
    rw [Int.toNat_natCast];exact (hb k).2 (by simp [hi'])) e (by rw [hon];simp) (j:Int) h
   rwa [Int.toNat_natCast] at this
theorem cyB_of {x:List Int} (h:CyP n es e x):cycB n es x=true:=by
 unfold cycB
 rw [decide_eq_true h.ev,Bool.true_and]
 have hx:(cycOf es (bitB x) x).length=1:=by
  unfold cycOf
  rw [List.length_map]
  have hlead:∀ i∈x,cLeadB es (bitB x) i.toNat=decide (i=(e:Int)):=fun i hi=>by
   have hr:=h.s.range i hi
   have hp:bitB x i.toNat=true:=(bitB_mem h.s _).2 (by rwa [Int.toNat_of_nonneg hr.1])
   have hpe:bitB x e=true:=(bitB_mem h.s _).2 h.mem
   rw [Bool.eq_iff_iff,cLeadB_iff,decide_eq_true_iff]
   constructor
   ·intro hc
    apply Classical.byContradiction
    intro hne
    have:=h.lo i hi
    exact hc e (by omega) hpe (h.con _ hp)
   ·rintro rfl j hj hpj
    have:=h.lo j ((bitB_mem h.s j).1 hpj)
    omega
  rw [List.filter_congr hlead]
  have hnd:=asc_nodup h.s.asc
  obtain ⟨A,B,hAB⟩:=List.append_of_mem h.mem
  rw [hAB] at hnd ⊢
  rw [List.nodup_append,List.nodup_cons] at hnd
  rw [List.filter_append,List.filter_cons,if_pos (by simp),List.filter_eq_nil_iff.2 (fun a ha=>by
   have:=hnd.2.2 a ha (e:Int) (by simp)
   simpa using this),List.filter_eq_nil_iff.2 (fun a ha=>by
   have:a≠(e:Int):=by rintro rfl;exact hnd.2.1.1 ha
   simpa using this)]
  rfl
 rw [hx];rfl
theorem cy_some (hg:IsG n es) {x:List Int} (hs:IsS x es.length) (hc:cycB n es x=true):∃ e,e<es.length∧x∈cyE n es e:=by
 unfold cycB at hc
 rw [Bool.and_eq_true] at hc
 have hev:=of_decide_eq_true hc.1
 have hone:(cycOf es (bitB x) x).length=1:=by have:=hc.2;simp only [beq_iff_eq] at this;omega
 obtain ⟨e,⟨r,hxr⟩,he,hpe,hall,hlow⟩:=one_part hs hone
 have hE:=hg.endsIn
 obtain ⟨_,hne,han,hbn,hon⟩:=ends_eq hE he
 have hdel:=fun y:Nat=>deg_del (es:=es) (p:=bitB x) (w:=(y:Int)) he hpe
 have heven:∀ y:Nat,degB es (bitB x) y%2=0:=fun y=>by
  by_cases hy:(y:Int)<n
  ·exact hev y hy
  ·rw [deg_out hE hy]
 have hle:∀ y:Nat,degB es (bitB x) y≤2:=fun y=>by
  by_cases hy:(y:Int)<n
  ·have:=degB_le_three (p:=bitB x) hg hy;have:=heven y;omega
  ·rw [deg_out hE hy];omega
 obtain ⟨l,hl,hlp⟩:=wk_some hE (e:=e) (en:=eaN es e) (f:=n.toNat+1) (a:=ebN es e) (M:=metB (ebN es e)) (p:=fun j=>bitB x j&&!decide (j=e)) (by have:=unseen_le (metB (ebN es e)) n.toNat;omega)
  (by simp [metB]) hbn (fun j hj hpj=>by
   simp only [Bool.and_eq_true,Bool.not_eq_true',decide_eq_false_iff_not] at hpj
   have:=mt (hlow j) (by intro hn;exact hn ((hall j).1 hpj.1).2)
   omega) (fun y=>by
   have h1:=hdel y
   have h2:=heven y
   rw [hon y] at h1
   by_cases e1:y=eaN es e
   ·have e2:¬ y=ebN es e:=by omega
    simp only [e1,true_or,decide_true,if_true] at h1 h2 ⊢
    rw [if_neg hne];omega
   ·by_cases e2:y=ebN es e
    ·simp only [e2,or_true,decide_true,if_true] at h1 h2 ⊢
     rw [if_neg (Ne.symm hne)];omega
    ·simp [e1,e2] at h1 h2 ⊢;omega) (fun y=>by have:=hdel y;have:=hle y;omega) (fun y hy hyn=>absurd (by simpa [metB] using hy) hyn)
 obtain ⟨C,hel,hmem⟩:=cy_way hE he hl
 have hsub:∀ j,bitB (rowOf es.length ((e:Int)::l)) j=true→bitB x j=true:=fun j hj=>by
  rcases List.mem_cons.1 ((hmem _).1 ((bitB_mem C.s j).1 hj)) with h|h
  ·have:j=e:=by omega
   rw [this];exact hpe
  ·have:=hlp _ h
   simp only [Int.toNat_natCast,Bool.and_eq_true] at this
   exact this.1
 have hsup:∀ j,bitB x j=true→bitB (rowOf es.length ((e:Int)::l)) j=true:=fun j hj=>by
  refine Rch.keep (P:=fun j=>bitB (rowOf es.length ((e:Int)::l)) j=true) (fun a b hab ha=>?_) ((hall j).1 hj).2 ((bitB_mem C.s e).2 C.mem)
  obtain ⟨hb,hpb,v,hva,hvb⟩:=hab
  obtain ⟨y,rfl,hyn⟩:=on_nat hE hb hvb
  cases hq:bitB (rowOf es.length ((e:Int)::l)) b with
  | true=>rfl
  | false=>
   exfalso
   have h1:0<degB es (bitB (rowOf es.length ((e:Int)::l))) y:=degB_pos (bitB_lt C.s ha) ha hva
   have h2:=C.ev y hyn
   have h3:=hle y
   have h4:degB es (bitB (rowOf es.length ((e:Int)::l))) y<degB es (bitB x) y:=by
    rw [degB_cn,degB_cn]
    refine cn_lt (i:=b) (fun j _ hj=>?_) (by rw [hvb,hpb];rfl) (by rw [hq,Bool.and_false]) hb
    rw [Bool.and_eq_true] at hj ⊢
    exact ⟨hj.1,hsub j hj.2⟩
   omega
 refine ⟨e,he,List.mem_map.2 ⟨l,hl,?_⟩⟩
 rw [hs.filt,C.s.filt]
 exact filtB_congr fun j hj=>by
  rw [Bool.eq_iff_iff];exact ⟨hsub j,hsup j⟩
theorem cyRows_mem (hg:IsG n es) {x:List Int}:x∈cyRows n es↔IsS x es.length∧cycB n es x=true:=by
 unfold cyRows
 rw [List.mem_flatMap]
 constructor
 ·rintro ⟨e,he,hx⟩
  obtain ⟨l,hl,rfl⟩:=List.mem_map.1 hx
  have C:=(cy_way hg.endsIn (List.mem_range.1 he) hl).1
  exact ⟨C.s,cyB_of C⟩
 ·rintro ⟨h1,h2⟩
  obtain ⟨e,h3,h4⟩:=cy_some hg h1 h2
  exact ⟨e,List.mem_range.2 h3,h4⟩
theorem cyRows_nodup (hg:IsG n es):(cyRows n es).Nodup:=by
 have hE:=hg.endsIn
 refine nodup_flat List.nodup_range (fun e he=>?_) fun e he e' he' hne x hx hx'=>?_
 ·refine nodup_map_inj wk_nodup fun l hl l' hl' h=>?_
  obtain ⟨_,h1,h2⟩:=cy_way hE (List.mem_range.1 he) hl
  obtain ⟨_,h1',h2'⟩:=cy_way hE (List.mem_range.1 he) hl'
  refine wk_same hE hl hl' (by simp [metB]) fun y=>?_
  have hy:y∈(e:Int)::l↔y∈(e:Int)::l':=by rw [← h2,← h2',h]
  constructor
  ·intro hm
   rcases List.mem_cons.1 (hy.1 (by simp [hm])) with rfl|h
   ·exact absurd hm h1
   ·exact h
  ·intro hm
   rcases List.mem_cons.1 (hy.2 (by simp [hm])) with rfl|h
   ·exact absurd hm h1'
   ·exact h
 ·obtain ⟨l,hl,rfl⟩:=List.mem_map.1 hx
  obtain ⟨l',hl',h⟩:=List.mem_map.1 hx'
  have C:=(cy_way hE (List.mem_range.1 he) hl).1
  have C':=(cy_way hE (List.mem_range.1 he') hl').1
  rw [h] at C'
  have:=C.lo _ C'.mem
  have:=C'.lo _ C.mem
  omega
end Go.Proofs
namespace Go.Proofs
open Go.Abs

inductive Wk (adj:Nat→Nat→Prop) (a:Nat):Nat→Nat→Prop
 | nil:Wk adj a 0 a
 | step {k x y:Nat}:Wk adj a k x→adj x y→Wk adj a (k+1) y
theorem Wk.pre {adj:Nat→Nat→Prop} {a b c k:Nat} (h:adj a b) (w:Wk adj b k c):Wk adj a (k+1) c:=by
 induction w with
 | nil=>exact .step .nil h
 | step _ h2 ih=>exact .step ih h2
theorem Wk.symm {adj:Nat→Nat→Prop} (hs:∀ x y,adj x y→adj y x) {a b k:Nat} (w:Wk adj a k b):Wk adj b k a:=by
 induction w with
 | nil=>exact .nil
 | step _ h2 ih=>exact .pre (hs _ _ h2) ih
end Go.Proofs
namespace Go.Proofs
open Go.Abs

variable {es:List (Int × Int)} {p q t:Nat→Bool} {n:Int} {w:Int}

def xAll (S:List (Nat→Bool)) (u:Nat):Bool:=S.foldr (fun f b=>f u ^^ b) false
theorem xAll_nil (u:Nat):xAll [] u=false:=rfl
theorem xAll_cons (f:Nat→Bool) (S:List (Nat→Bool)) (u:Nat):xAll (f::S) u=(f u ^^ xAll S u):=rfl
theorem xAll_app:∀ (S R:List (Nat→Bool)) (u:Nat),xAll (S++R) u=(xAll S u ^^ xAll R u)
 | [],R,u=>by simp [xAll_nil]
 | f::S,R,u=>by rw [List.cons_append,xAll_cons,xAll_app S R u,xAll_cons,Bool.xor_assoc]
theorem xAll_zero {S:List (Nat→Bool)} {u:Nat}:(∀ f∈S,f u=false)→xAll S u=false:=by
 induction S with
 | nil=>intro _;rfl
 | cons f S ih=>intro h;rw [xAll_cons,h f (by simp),ih fun g hg=>h g (by simp [hg])];rfl
theorem xAll_fix (f:Nat→Bool) (u:Nat):∀ (S:List (Nat→Bool)),∃ t:Bool,∀ w,xAll (S.map fun g=>if g u then (fun x=>g x ^^ f x) else g) w=(xAll S w ^^ (t&&f w))
 | []=>⟨false,fun w=>rfl⟩
 | g::S=>by
  obtain ⟨t,ht⟩:=xAll_fix f u S
  cases hg:g u with
  | true=>
   refine ⟨!t,fun w=>?_⟩
   rw [List.map_cons,xAll_cons,ht w,xAll_cons,if_pos hg]
   cases g w <;> cases f w <;> cases xAll S w <;> cases t <;> rfl
  | false=>
   refine ⟨t,fun w=>?_⟩
   rw [List.map_cons,xAll_cons,ht w,xAll_cons,if_neg (by rw [hg];simp),Bool.xor_assoc]
theorem dep:∀ (U:List Nat) (L:List (Nat→Bool)),U.length<L.length→∃ S,S.Sublist L∧S≠[]∧∀ u∈U,xAll S u=false
 | [],L,h=>⟨L,List.Sublist.refl L,by rintro rfl;simp at h,fun u hu=>absurd hu (by simp)⟩
 | u::U,L,h=>by
  by_cases hz:∀ f∈L,f u=false
  ·obtain ⟨S,h1,h2,h3⟩:=dep U L (by simp at h;omega)
   refine ⟨S,h1,h2,fun x hx=>?_⟩
   rcases List.mem_cons.1 hx with rfl|hx
   ·exact xAll_zero fun f hf=>hz f (h1.subset hf)
   ·exact h3 x hx
  ·obtain ⟨f,hf1,hf2⟩:∃ f,f∈L∧f u=true:=by
    apply Classical.byContradiction
    intro hn
    exact hz fun f hf=>by
     cases hfu:f u with
     | false=>rfl
     | true=>exact absurd ⟨f,hf,hfu⟩ hn
   obtain ⟨A,B,rfl⟩:=List.append_of_mem hf1
   have hlen:U.length<((A++B).map fun g:Nat→Bool=>if g u then (fun x=>g x ^^ f x) else g).length:=by
    simp at h ⊢;omega
   obtain ⟨S',h1,h2,h3⟩:=dep U _ hlen
   obtain ⟨S0,k1,rfl⟩:=List.sublist_map_iff.1 h1
   obtain ⟨SA,SB,rfl,kA,kB⟩:=List.sublist_append_iff.1 k1
   have hz:xAll ((SA++SB).map fun g:Nat→Bool=>if g u then (fun x=>g x ^^ f x) else g) u=false:=xAll_zero fun g hg=>by
    obtain ⟨g0,_,rfl⟩:=List.mem_map.1 hg
    cases hgu:g0 u with
    | true=>rw [if_pos rfl];simp [hgu,hf2]
    | false=>rw [if_neg (by simp),hgu]
   have hall:∀ x∈u::U,xAll ((SA++SB).map fun g:Nat→Bool=>if g u then (fun x=>g x ^^ f x) else g) x=false:=fun x hx=>by
    rcases List.mem_cons.1 hx with rfl|hx
    ·exact hz
    ·exact h3 x hx
   obtain ⟨b,hb⟩:=xAll_fix f u (SA++SB)
   cases b with
   | false=>
    refine ⟨SA++SB,kA.append (kB.trans (List.sublist_cons_self _ _)),by rintro he;rw [he] at h2;exact h2 rfl,fun x hx=>?_⟩
    have:=hall x hx
    rw [hb] at this
    simpa using this
   | true=>
    refine ⟨SA++f::SB,kA.append (kB.cons_cons _),by simp,fun x hx=>?_⟩
    have:=hall x hx
    rw [hb,xAll_app] at this
    rw [xAll_app,xAll_cons]
    revert this
    cases xAll SA x <;> cases xAll SB x <;> cases f x <;> simp
theorem deg_single {i:Nat} (hi:i<es.length) (w:Int):degB es (fun j=>decide (j=i)) w=if on (es.getD i (0,0)) w then 1 else 0:=by
 have h0:=deg_del (w:=w) (p:=fun j=>decide (j=i)) hi (by simp)
 have h1:degB es (fun j=>decide (j=i)&&!decide (j=i)) w=0:=by rw [degB_cn];exact cn_zero fun j hj=>by simp
 rw [h1] at h0;omega
theorem deg_list:∀ {l:List Nat},l.Nodup→(∀ j∈l,j<es.length)→∀ w:Nat,degB es (fun j=>decide (j∈l)) w%2=if xAll (l.map fun j (w:Nat)=>on (es.getD j (0,0)) (w:Int)) w then 1 else 0
 | [],_,_,w=>by
  rw [degB_cn,cn_zero fun j hj=>by simp];rfl
 | a::l,hn,hl,w=>by
  rw [List.nodup_cons] at hn
  have ih:=deg_list hn.2 (fun j hj=>hl j (by simp [hj])) w
  rw [deg_congr (q:=fun j=>decide (j=a) ^^ decide (j∈l)) fun j hj=>by
   by_cases e:j=a
   ·subst e;simp [hn.1]
   ·simp [e],deg_xor,deg_single (hl a (by simp)),List.map_cons,xAll_cons]
  revert ih
  cases on (es.getD a (0,0)) (w:Int) <;> cases xAll (l.map fun j (w:Nat)=>on (es.getD j (0,0)) (w:Int)) w <;> simp <;> omega
theorem cn_range (f:Nat→Bool) (k:Nat):((List.range k).filter f).length=cn f k:=by
 rw [← cn_filt,filtB,List.length_map]
theorem hands_all (he:EndsIn n es) (p:Nat→Bool):sm (fun w=>degB es p w) n.toNat=2*cn p es.length:=by
 have:=hands he (fun _=>true) p
 simp only [if_true] at this
 rw [this]
 have e:∀ k,sm (fun j=>if p j then 1+1 else 0) k=2*cn p k:=fun k=>by
  induction k with
  | zero=>rfl
  | succ k ih=>rw [sm,cn,ih];split <;> omega
 exact e _
theorem pruned_even (he:EndsIn n es) (ht:Forest es t) (h3:∀ w:Nat,degB es p w≤3) {i:Nat} (hp:∀ j,j<es.length→p j=true→t j=true∨j=i) (h1:∀ w:Nat,(w:Int)<n→degB es p w≠1):EvenS n es p:=by
 intro w0 hw0
 apply Classical.byContradiction
 intro hodd
 have hw3:degB es p w0=3:=by have:=h3 w0;have:=h1 w0 hw0;omega
 -- more edges than vertices
 have hs:sm (fun w=>if (decide (0<degB es p w)) then 2 else 0) n.toNat<sm (fun w=>degB es p w) n.toNat:=sm_lt (i:=w0) (by simp [hw3]) (fun w hw=>by
  have:=h1 w (by omega)
  by_cases h0:0<degB es p w <;> simp [h0]
  omega) (by omega)
 have e:∀ (f:Nat→Bool) k,sm (fun w=>if f w then 2 else 0) k=2*cn f k:=fun f k=>by
  induction k with
  | zero=>rfl
  | succ k ih=>rw [sm,cn,ih];split <;> omega
 rw [e,hands_all he] at hs
 have hF:cn p es.length≤cn (fun j=>p j&&!decide (j=i)) es.length+1:=by
  by_cases hpi:i<es.length∧p i=true
  ·have:=cn_del hpi.2 hpi.1;omega
  ·rw [cn_congr (f:=fun j=>p j&&!decide (j=i)) (g:=p) fun j hj=>by
    by_cases e:j=i
    ·subst e
     have:p j=false:=by cases h:p j with
      | false=>rfl
      | true=>exact absurd ⟨hj,h⟩ hpi
     simp [this]
    ·simp [e]];omega
 let V:=(List.range n.toNat).filter fun w:Nat=>decide (0<degB es p (w:Int))
 let L:=(List.range es.length).filter fun j=>p j&&!decide (j=i)
 have hV:V.length=cn (fun w=>decide (0<degB es p (w:Int))) n.toNat:=cn_range _ _
 have hL:L.length=cn (fun j=>p j&&!decide (j=i)) es.length:=cn_range _ _
 have hv0:w0∈V:=List.mem_filter.2 ⟨List.mem_range.2 (by omega),by simp [hw3]⟩
 have hVp:=List.length_pos_of_mem hv0
 have hlen:(V.erase w0).length<(L.map fun j (w:Nat)=>on (es.getD j (0,0)) (w:Int)).length:=by
  rw [List.length_erase_of_mem hv0,List.length_map];omega
 obtain ⟨S,s1,s2,s3⟩:=dep _ _ hlen
 obtain ⟨l,l1,rfl⟩:=List.sublist_map_iff.1 s1
 have hnd:l.Nodup:=l1.nodup (List.nodup_range.filter _)
 have hsub:∀ j∈l,j<es.length∧p j=true∧j≠i:=fun j hj=>by
  have:=List.mem_filter.1 (l1.subset hj)
  simp only [List.mem_range,Bool.and_eq_true,Bool.not_eq_true',decide_eq_false_iff_not] at this
  exact ⟨this.1,this.2.1,this.2.2⟩
 have hdl:=deg_list (es:=es) hnd fun j hj=>(hsub j hj).1
 have hoth:∀ w:Nat,w<n.toNat→w≠w0→degB es (fun j=>decide (j∈l)) w%2=0:=fun w hw hne=>by
  by_cases hd:0<degB es p w
  ·have hm:w∈V.erase w0:=(List.mem_erase_of_ne hne).2 (List.mem_filter.2 ⟨List.mem_range.2 hw,by simpa using hd⟩)
   rw [hdl,s3 w hm];rfl
  ·have:=deg_le (es:=es) (p:=fun j=>decide (j∈l)) (q:=p) (w:=(w:Int)) fun j hj hj'=>(hsub j (by simpa using hj')).2.1
   omega
 have heven:EvenS n es fun j=>decide (j∈l):=fun w hw=>by
  by_cases hne:w=w0
  ·subst hne
   apply Classical.byContradiction
   intro ho
   have h2:sm (fun x=>degB es (fun j=>decide (j∈l)) (x:Nat)+if x=w then 1 else 0) n.toNat%2=0:=sm_even fun x hx=>by
    by_cases e:x=w
    ·subst e;simp;omega
    ·simp [e];exact hoth x hx e
   rw [sm_add,sm_one (by omega),hands_all he] at h2
   omega
  ·exact hoth w (by omega) hne
 have hnone:=ht.none he heven fun j hj hj'=>by
  obtain ⟨_,h2,h3⟩:=hsub j (by simpa using hj')
  exact (hp j hj h2).resolve_right h3
 cases l with
 | nil=>exact s2 rfl
 | cons a l=>
  have:=hnone a (hsub a (by simp)).1
  simp at this
structure BasOk (n:Int) (es:List (Int × Int)) (t:Nat→Bool) (i o:Nat):Prop where
 sub:∀ j,o.testBit j=true→j<es.length∧(t j=true∨j=i)
 own:o.testBit i=true
 even:EvenS n es fun j=>o.testBit j
inductive Bas (n:Int) (es:List (Int × Int)) (t:Nat→Bool):Nat→List Nat→Prop
 | nil:Bas n es t 0 []
 | tree {k:Nat} {os:List Nat}:Bas n es t k os→t k=true→Bas n es t (k+1) os
 | own {k o:Nat} {os:List Nat}:Bas n es t k os→t k=false→BasOk n es t k o→Bas n es t (k+1) (os++[o])
theorem Bas.len {k:Nat} {os:List Nat} (h:Bas n es t k os):os.length≤k:=by
 induction h with
 | nil=>exact Nat.le_refl _
 | tree _ _ ih=>omega
 | own _ _ _ ih=>simp;omega
def xL (os:List Nat):List Nat:=os.foldl (fun A o=>A++A.map (· ^^^ o)) [0]
theorem xL_snoc (os:List Nat) (o:Nat):xL (os++[o])=xL os++(xL os).map (· ^^^ o):=by
 unfold xL;rw [List.foldl_append];rfl
theorem xL_length (os:List Nat):∀ A:List Nat,(os.foldl (fun A o=>A++A.map (· ^^^ o)) A).length=A.length*2^os.length:=by
 induction os with
 | nil=>intro A;simp
 | cons o os ih=>intro A;rw [List.foldl_cons,ih];simp [Nat.pow_succ];rw [← Nat.two_mul,Nat.mul_comm 2,Nat.mul_assoc,Nat.mul_comm 2]
theorem nodup_map_on {α β:Type} {f:α→β}:∀ {l:List α},l.Nodup→(∀ a∈l,∀ b∈l,f a=f b→a=b)→(l.map f).Nodup
 | [],_,_=>List.nodup_nil
 | a::l,h,k=>by
  rw [List.nodup_cons] at h
  rw [List.map_cons,List.nodup_cons]
  refine ⟨fun hm=>?_,nodup_map_on h.2 fun x hx y hy=>k x (by simp [hx]) y (by simp [hy])⟩
  obtain ⟨b,hb,he⟩:=List.mem_map.1 hm
  exact h.1 (k b (by simp [hb]) a (by simp) he▸hb)
theorem xL_all (he:EndsIn n es) (ht:Forest es t) {k:Nat} {os:List Nat} (h:Bas n es t k os) :
 (xL os).Nodup∧∀ s:Nat,s∈xL os↔(∀ j,s.testBit j=true→j<es.length)∧EvenS n es (fun j=>s.testBit j)∧∀ j,k≤j→s.testBit j=true→t j=true:=by
 induction h with
 | nil=>
  refine ⟨by simp [xL],fun s=>⟨fun hs=>?_,fun ⟨h1,h2,h3⟩=>?_⟩⟩
  ·have:s=0:=by simpa [xL] using hs
   subst this
   refine ⟨fun j hj=>by simp at hj,fun w hw=>?_,fun j _ hj=>by simp at hj⟩
   rw [degB_cn,cn_zero fun j hj=>by simp]
  ·have:s=0:=Nat.eq_of_testBit_eq fun j=>by
    by_cases hj:j<es.length
    ·rw [ht.none he h2 (fun j _ hs=>h3 j (Nat.zero_le _) hs) j hj];simp
    ·cases hs:s.testBit j with
     | true=>exact absurd (h1 j hs) hj
     | false=>simp
   subst this;simp [xL]
 | @tree k os _ hk ih=>
  refine ⟨ih.1,fun s=>(ih.2 s).trans ⟨fun ⟨h1,h2,h3⟩=>⟨h1,h2,fun j hj hs=>h3 j (by omega) hs⟩,fun ⟨h1,h2,h3⟩=>⟨h1,h2,fun j hj hs=>?_⟩⟩⟩
  by_cases e:j=k
  ·subst e;exact hk
  ·exact h3 j (by omega) hs
 | @own k o os _ hk hb ih=>
  have hkf:∀ s∈xL os,s.testBit k=false:=fun s hs=>by
   cases h:s.testBit k with
   | false=>rfl
   | true=>have:=((ih.2 s).1 hs).2.2 k (Nat.le_refl _) h;rw [hk] at this;cases this
  have hx:∀ s r:Nat,(s ^^^ r) ^^^ r=s:=fun s r=>by rw [Nat.xor_assoc,Nat.xor_self,Nat.xor_zero]
  have hev:∀ s:Nat,EvenS n es (fun j=>s.testBit j)→EvenS n es (fun j=>(s ^^^ o).testBit j):=fun s h1 w hw=>by
   rw [deg_congr (q:=fun j=>s.testBit j ^^ o.testBit j) fun j hj=>Nat.testBit_xor ..,deg_xor]
   have h1:degB es s.testBit w%2=0:=h1 w hw
   have h2:degB es o.testBit w%2=0:=hb.even w hw
   omega
  refine ⟨?_,fun s=>?_⟩
  ·rw [xL_snoc,List.nodup_append]
   refine ⟨ih.1,nodup_map_on ih.1 fun a _ b _ hab=>?_,fun a ha b hb' hab=>?_⟩
   ·have:=congrArg (· ^^^ o) hab
    simpa [hx] using this
   ·obtain ⟨c,hc,rfl⟩:=List.mem_map.1 hb'
    have h1:=hkf a ha
    rw [hab,Nat.testBit_xor,hkf c hc,hb.own] at h1
    simp at h1
  ·rw [xL_snoc,List.mem_append]
   constructor
   ·rintro (hs|hs)
    ·obtain ⟨h1,h2,h3⟩:=(ih.2 s).1 hs
     exact ⟨h1,h2,fun j hj hs=>h3 j (by omega) hs⟩
    ·obtain ⟨c,hc,rfl⟩:=List.mem_map.1 hs
     obtain ⟨h1,h2,h3⟩:=(ih.2 c).1 hc
     refine ⟨fun j hj=>?_,hev c h2,fun j hj hs=>?_⟩
     ·rw [Nat.testBit_xor] at hj
      cases hcj:c.testBit j with
      | true=>exact h1 j hcj
      | false=>rw [hcj] at hj;exact (hb.sub j (by simpa using hj)).1
     ·rw [Nat.testBit_xor] at hs
      cases hcj:c.testBit j with
      | true=>exact h3 j (by omega) hcj
      | false=>
       rw [hcj] at hs
       rcases (hb.sub j (by simpa using hs)).2 with h|h
       ·exact h
       ·omega
   ·rintro ⟨h1,h2,h3⟩
    cases hsk:s.testBit k with
    | false=>
     refine .inl ((ih.2 s).2 ⟨h1,h2,fun j hj hs=>?_⟩)
     by_cases e:j=k
     ·subst e;rw [hsk] at hs;cases hs
     ·exact h3 j (by omega) hs
    | true=>
     refine .inr (List.mem_map.2 ⟨s ^^^ o,(ih.2 _).2 ⟨fun j hj=>?_,hev s h2,fun j hj hs=>?_⟩,hx s o⟩)
     ·rw [Nat.testBit_xor] at hj
      cases hcj:s.testBit j with
      | true=>exact h1 j hcj
      | false=>rw [hcj] at hj;exact (hb.sub j (by simpa using hj)).1
     ·rw [Nat.testBit_xor] at hs
      by_cases e:j=k
      ·subst e;rw [hsk,hb.own] at hs;simp at hs
      ·cases hcj:s.testBit j with
       | true=>exact h3 j (by omega) hcj
       | false=>
        rw [hcj] at hs
        rcases (hb.sub j (by simpa using hs)).2 with h|h
        ·exact h
        ·omega
end Go.Proofs
namespace Go.Proofs
open Go.Abs

variable {es:List (Int × Int)} {n:Int}

def lexC:List Int→List Int→Int
 | [],[]=>0
 | [],_::_=>-1
 | _::_,[]=>1
 | a::l,b::m=>if a<b then -1 else if b<a then 1 else lexC l m
theorem lexC_neg:∀ l m,lexC m l=- lexC l m
 | [],[]=>rfl
 | [],_::_=>rfl
 | _::_,[]=>rfl
 | a::l,b::m=>by
  have:=lexC_neg l m
  unfold lexC
  by_cases h1:a<b
  ·have:¬ b<a:=by omega
   simp [h1,this]
  ·by_cases h2:b<a
   ·simp [h1,h2]
   ·simp [h1,h2,this]
theorem lexC_zero:∀ {l m},lexC l m=0→l=m
 | [],[],_=>rfl
 | [],_::_,h=>by cases h
 | _::_,[],h=>by cases h
 | a::l,b::m,h=>by
  unfold lexC at h
  split at h
  ·omega
  ·split at h
   ·omega
   ·rw [lexC_zero h,show a=b by omega]
theorem lexC_tr:∀ {l m r},lexC l m≤0→lexC m r≤0→lexC l r≤0
 | [],m,[],_,_=>by decide
 | [],m,_::_,_,_=>by unfold lexC;omega
 | a::l,[],r,h,_=>by unfold lexC at h;omega
 | a::l,b::m,[],_,h=>by unfold lexC at h;omega
 | a::l,b::m,c::r,h,k=>by
  unfold lexC at h k ⊢
  by_cases h1:a<b
  ·by_cases k1:b<c
   ·simp [show a<c by omega]
   ·by_cases k2:c<b
    ·simp [k1,k2] at k
    ·simp [show a<c by omega]
  ·by_cases h2:b<a
   ·simp [h1,h2] at h
   ·simp [h1,h2] at h
    by_cases k1:b<c
    ·simp [show a<c by omega]
    ·by_cases k2:c<b
     ·simp [k1,k2] at k
     ·simp [k1,k2] at k
      simp [show ¬ a<c by omega,show ¬ c<a by omega]
      exact lexC_tr h k
def cmpR (a b:List Int):Int:=if a.length<b.length then -1 else if b.length<a.length then 1 else lexC a b
theorem cmpR_neg (a b:List Int):cmpR b a=- cmpR a b:=by
 unfold cmpR
 by_cases h1:a.length<b.length
 ·simp [h1,show ¬ b.length<a.length by omega]
 ·by_cases h2:b.length<a.length
  ·simp [h1,h2]
  ·simp [h1,h2];exact lexC_neg a b
theorem cmpR_zero {a b:List Int} (h:cmpR a b=0):a=b:=by
 unfold cmpR at h
 split at h
 ·omega
 ·split at h
  ·omega
  ·exact lexC_zero h
theorem cmpR_tr {a b c:List Int} (h:cmpR a b≤0) (k:cmpR b c≤0):cmpR a c≤0:=by
 unfold cmpR at *
 by_cases h1:a.length<c.length
 ·simp [h1]
 ·by_cases h2:c.length<a.length
  ·exfalso
   by_cases g1:b.length<a.length
   ·simp [show ¬ a.length<b.length by omega,g1] at h
   ·simp [show ¬ b.length<c.length by omega,show c.length<b.length by omega] at k
  ·by_cases g1:a.length<b.length
   ·simp [show ¬ b.length<c.length by omega,show c.length<b.length by omega] at k
   ·by_cases g2:b.length<a.length
    ·simp [g1,g2] at h
    ·simp [g1,g2] at h
     simp [show ¬ b.length<c.length by omega,show ¬ c.length<b.length by omega] at k
     simp [h1,h2]
     exact lexC_tr h k
theorem cmpR_le {a b:List Int}:¬ cmpR b a<0↔cmpR a b≤0:=by rw [cmpR_neg a b];omega
theorem cmpR_ord:Cmp cmpR:=⟨fun x y z h1 h2=>by rw [cmpR_le] at *;exact cmpR_tr h1 h2,fun x y h=>by rw [cmpR_neg x y];omega⟩
def cS (x y:Nat):Int:=cmpR (bitsL x) (bitsL y)
theorem cS_ord:Cmp cS:=⟨fun x y z h1 h2=>cmpR_ord.tr _ _ _ h1 h2,fun x y h=>cmpR_ord.asy _ _ h⟩
theorem bits_isS {s m:Nat} (hm:m≤64) (h:∀ j,s.testBit j=true→j<m):IsS (bitsL s) m:=by
 rw [bitsL_filt hm h]
 exact asc_isS (filtB_asc _ _) fun x hx=>by
  obtain ⟨j,rfl,h1,_⟩:=mem_filtB.1 hx
  omega
theorem setN_bits {s m:Nat} (hm:m≤64) (h:∀ j,s.testBit j=true→j<m):setN (bitsL s)=s:=by
 have hs:=bits_isS hm h
 refine Nat.eq_of_testBit_eq fun j=>?_
 have:bitB (bitsL s) j=true↔s.testBit j=true:=by
  rw [bitB_mem hs,bitsL_filt hm h,mem_filtB]
  constructor
  ·rintro ⟨i,hi,_,h2⟩
   obtain rfl:j=i:=by omega
   exact h2
  ·intro hj;exact ⟨j,rfl,h j hj,hj⟩
 exact Bool.eq_iff_iff.2 this
theorem xL_lt {os:List Nat} (ho:∀ o∈os,o<2^64):∀ s∈xL os,s<2^64:=by
 unfold xL
 have:∀ (os A:List Nat),(∀ o∈os,o<2^64)→(∀ s∈A,s<2^64)→∀ s∈os.foldl (fun A o=>A++A.map (· ^^^ o)) A,s<2^64:=by
  intro os
  induction os with
  | nil=>intro A _ h;exact h
  | cons o os ih=>
   intro A ho hA
   refine ih _ (fun x hx=>ho x (by simp [hx])) fun s hs=>?_
   rcases List.mem_append.1 hs with hs|hs
   ·exact hA s hs
   ·obtain ⟨c,hc,rfl⟩:=List.mem_map.1 hs
    exact Nat.xor_lt_two_pow (hA c hc) (ho o (by simp))
 exact this os [0] ho (by simp)
theorem cyc_perm {t:Nat→Bool} {os S:List Nat} (hg:IsG n es) (hm:es.length≤64) (ht:Forest es t) (hB:Bas n es t es.length os) (hS:S.Perm ((xL os).filter fun s=>cycB n es (bitsL s))):(S.map bitsL).Perm (cyRows n es):=by
 have hE:=hg.endsIn
 obtain ⟨h1,h2⟩:=xL_all hE ht hB
 have hin:∀ s∈S,(∀ j,s.testBit j=true→j<es.length)∧cycB n es (bitsL s)=true:=fun s hs=>by
  obtain ⟨g1,g2⟩:=List.mem_filter.1 (hS.mem_iff.1 hs)
  exact ⟨((h2 s).1 g1).1,g2⟩
 have hSn:S.Nodup:=hS.nodup_iff.2 (h1.filter _)
 refine (List.perm_ext_iff_of_nodup (nodup_map_inj hSn fun a ha b hb hab=>?_) (cyRows_nodup hg)).2 fun x=>?_
 ·rw [← setN_bits hm (hin a ha).1,← setN_bits hm (hin b hb).1,hab]
 ·rw [cyRows_mem hg,List.mem_map]
  constructor
  ·rintro ⟨s,hs,rfl⟩
   exact ⟨bits_isS hm (hin s hs).1,(hin s hs).2⟩
  ·rintro ⟨g1,g2⟩
   have hb:∀ j,(setN x).testBit j=true→j<es.length:=fun j hj=>bitB_lt g1 hj
   have e:bitsL (setN x)=x:=by rw [bitsL_filt hm hb];exact g1.filt.symm
   refine ⟨setN x,hS.mem_iff.2 (List.mem_filter.2 ⟨(h2 _).2 ⟨hb,?_,fun j hj hj'=>absurd (hb j hj') (by omega)⟩,by rw [e];exact g2⟩),e⟩
   have:=of_decide_eq_true (Bool.and_eq_true _ _▸g2:_∧_).1
   exact this
end Go.Proofs
