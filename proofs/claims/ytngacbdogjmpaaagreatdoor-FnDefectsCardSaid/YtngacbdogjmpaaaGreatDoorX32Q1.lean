/- Contracts and plain mathematics for a law, merged. -/
import Derived.Laws.Bits64
import Derived.Test.YtngacbdogjmpaaaGreatDoorX32G
import Derived.Test.YtngacbdogjmpaaaGreatDoorX32P3
set_option linter.unusedVariables false
set_option linter.unusedSimpArgs false
set_option maxRecDepth 100000
namespace Go.Proofs
open Go.Abs

structure IsEd (n:Int) (es:List (Int × Int)):Prop where
 lo:2≤n
 hi:n≤20
 even:n%2=0
 len:(es.length:Int)=3*n/2
 ends:∀ e∈es,0≤e.1∧e.1≤n-1∧0≤e.2∧e.2≤n-1∧e.1≠e.2
def bump1 (cs:List Int) (v:Int):List Int:=cs.set v.toNat (cs.getD v.toNat 0+1)
def bump (cs:List Int) (e:Int × Int):List Int:=bump1 (bump1 cs e.1) e.2
def counts (n:Int) (es:List (Int × Int)):List Int:=es.foldl bump (List.replicate n.toNat 0)
def ltE (a b:Int × Int):Prop:=a.1<b.1∨a.1=b.1∧a.2<b.2
instance (a b:Int × Int):Decidable (ltE a b):=by unfold ltE;infer_instance
def Srt (es:List (Int × Int)):Prop:=∀ i,i+1<es.length→¬ ltE (es.getD (i+1) (0,0)) (es.getD i (0,0))
structure IsG (n:Int) (es:List (Int × Int)):Prop where
 ed:IsEd n es
 up:∀ e∈es,e.1<e.2
 srt:Srt es
 cub:∀ c∈counts n es,c=3
noncomputable instance (n:Int) (es:List (Int × Int)):Decidable (IsG n es):=Classical.propDecidable _
noncomputable instance (n:Int) (es:List (Int × Int)):Decidable (IsEd n es):=Classical.propDecidable _
def IsS (l:List Int) (n:Int):Prop:=∀ i,i<l.length→0≤l.getD i 0∧l.getD i 0≤n-1∧(0<i→l.getD (i-1) 0<l.getD i 0)
noncomputable instance (l:List Int) (n:Int):Decidable (IsS l n):=Classical.propDecidable _
def Cub (n:Int) (es:List (Int × Int)):Prop:=∀ c∈counts n es,c=3
noncomputable instance (n:Int) (es:List (Int × Int)):Decidable (Cub n es):=Classical.propDecidable _
theorem bump1_length (cs:List Int) (v:Int):(bump1 cs v).length=cs.length:=by simp [bump1]
theorem bump_length (cs:List Int) (e:Int × Int):(bump cs e).length=cs.length:=by simp [bump,bump1_length]
theorem foldl_bump_length:∀ (es:List (Int × Int)) (cs:List Int),(es.foldl bump cs).length=cs.length
 | [],cs=>rfl
 | e::es,cs=>by rw [List.foldl_cons,foldl_bump_length es,bump_length]
theorem counts_length (n:Int) (es:List (Int × Int)):(counts n es).length=n.toNat:=by simp [counts,foldl_bump_length]
theorem counts_take (n:Int) (es:List (Int × Int)) {i:Nat} (h:i<es.length):counts n (es.take (i+1))=bump (counts n (es.take i)) es[i]:=by
 unfold counts;rw [List.take_succ_eq_append_getElem h,List.foldl_append];rfl
theorem bump1_le {cs:List Int} {B:Int} (h:∀ c∈cs,0≤c∧c≤B) (v:Int):∀ c∈bump1 cs v,0≤c∧c≤B+1:=by
 intro c hc
 unfold bump1 at hc
 by_cases hv:v.toNat<cs.length
 ·rcases List.mem_or_eq_of_mem_set hc with hc|rfl
  ·have:=h c hc;omega
  ·have:=h cs[v.toNat] (List.getElem_mem hv)
   rw [getD_of hv];omega
 ·rw [List.set_eq_of_length_le (by omega)] at hc
  have:=h c hc;omega
theorem foldl_bump_le:∀ (es:List (Int × Int)) (cs:List Int) (B:Int),(∀ c∈cs,0≤c∧c≤B)→∀ c∈es.foldl bump cs,0≤c∧c≤B+2*es.length
 | [],cs,B,h,c,hc=>by have:=h c hc;simp;omega
 | e::es,cs,B,h,c,hc=>by
  have:=foldl_bump_le es (bump cs e) (B+2) (fun c hc=>by have:=bump1_le (bump1_le h e.1) e.2 c hc;omega) c hc
  simp;omega
theorem counts_le (n:Int) (es:List (Int × Int)):∀ c∈counts n es,0≤c∧c≤2*es.length:=by
 intro c hc
 have:=foldl_bump_le es _ 0 (by intro c hc;rw [List.mem_replicate] at hc;omega) c hc
 omega
end Go.Proofs
namespace Go.Proofs
open Go.Abs

variable {H:AHeap} {v u f:Value} {l m:List Int} {es fs:List (Int × Int)} {K:Value→AHeap→Prop}

theorem within_ok {n a b:Int} (k:K (.bool (decide (a≤n∧n≤b))) H):AC Tryz.prog T0 114 [.int .i64 n,.int .i64 a,.int .i64 b] H K:=by
 apply F114.ac
 unfold F114.B2 F114.B1
 refine pif_cases (fun h=>?_) fun h=>?_
 ·have h:=of_decide_eq_true h
  simpa [h] using k
 ·have h:=of_decide_eq_false h
  simpa [h] using k
theorem l01In_ok {n a b:Int} (k:K (.bool (decide (a≤n∧n≤b))) H):AC Tryz.prog T0 91 [.int .i64 n,.int .i64 a,.int .i64 b] H K:=by
 apply F91.ac
 unfold F91.B2 F91.B1
 refine pif_cases (fun h=>?_) fun h=>?_
 ·have h:=of_decide_eq_true h
  simpa [h] using k
 ·have h:=of_decide_eq_false h
  have h:¬ a≤n:=by omega
  simpa [h] using k
theorem isSize_ok {n:Int} (k:K (.bool (decide (2≤n∧n≤20∧n%2=0))) H):AC Tryz.prog T0 118 [.int .i64 n] H K:=by
 apply F118.ac
 unfold F118.B2 F118.B1
 refine within_ok (asB_mk (pif_cases (fun h=>?_) fun h=>?_))
 ·have h:=of_decide_eq_true h
  have e:Int.tmod n 2=n%2:=Int.tmod_eq_emod_of_nonneg (by omega)
  rw [e]
  have:(n%2==0)=decide (2≤n∧n≤20∧n%2=0):=by
   by_cases h2:n%2=0 <;> simp [h2,h]
  rw [this];exact k
 ·have h:=of_decide_eq_false h
  rw [decide_eq_false (fun h2=>h ⟨h2.1,h2.2.1⟩)] at k;exact k
theorem lengthE_ok (h:Edges H v es) (k:K (.int .i64 es.length) H):AC Tryz.prog T0 115 [v] H K:=by
 apply F115.ac
 unfold F115.B2 F115.B1
 exact h.len k
def Cl (H:AHeap) (f x:Value) (b:Bool):Prop:=∀ G,H.le G→∀ K:Value→AHeap→Prop,(∀ G',G.le G'→K (.bool b) G')→callV Tryz.prog T0 f [x] G K
theorem callV_mk {g:Nat} {xs ys args:List Value} (h:AC Tryz.prog T0 g (xs++args++ys) H K):callV Tryz.prog T0 (.func (.func g) ⟨xs⟩ ⟨ys⟩) args H K:=h
def ve (e:Int × Int):Value:=.agg ⟨[.int .i64 e.1,.int .i64 e.2]⟩
theorem indexE_ok {p:Int × Int→Bool} (h:Edges H v es) (hl:es.length≤4611686018427387904) (hf:∀ e∈es,Cl H f (ve e) (p e)) (k:∀ r G,H.le G→decide (r≥0)=es.any p→K (.int .i64 r) G) :
 AC Tryz.prog T0 172 [v,f] H K:=by
 apply F172.ac
 unfold F172.B9 F172.B8
 refine h.len ?_
 unfold F172.L2
 refine ⟨fun x0 x1 x7 x8 G=>x0=v∧x1=f∧x7=es.length∧0≤x8∧x8≤es.length∧H.le G∧∀ i:Nat,(i:Int)<x8→p (es.getD i (0,0))=false,fun _ _ _ x8 _=>es.length-x8.toNat,⟨rfl,rfl,rfl,by omega,by omega,AHeap.le_refl _,fun i hi=>absurd hi (by omega)⟩,?_⟩
 rintro x0 x1 x7 x8 G ⟨rfl,rfl,rfl,h0,h1,hG,hp⟩
 unfold F172.B7
 refine pif_cases (fun hb=>?_) fun hb=>?_
 ·have hlt:x8<es.length:=of_decide_eq_true hb
  obtain ⟨n,rfl⟩:∃ n:Nat,x8=n:=⟨x8.toNat,by omega⟩
  have hn:n<es.length:=by omega
  unfold F172.B6 F172.B5
  obtain ⟨b,o,hk,c1,c2⟩:=(h.le hG).idx h0 hlt
  refine hk _ (ldI_mk c1 (ldI_mk c2 ?_))
  simp only [Int.toNat_natCast,getD_of hn]
  refine hf es[n] (List.getElem_mem hn) G hG _ fun G2 hG2=>asB_mk (pif_cases (fun hb=>?_) fun hb=>?_)
  ·unfold F172.B4
   refine k _ _ (AHeap.le_trans hG hG2) ?_
   rw [List.any_eq_true.2 ⟨es[n],List.getElem_mem hn,hb⟩];simp
  ·unfold F172.B3
   rw [wrap_id (by omega) (by omega)]
   refine ⟨⟨rfl,rfl,rfl,by omega,by omega,AHeap.le_trans hG hG2,fun i hi=>?_⟩,by simp;omega⟩
   by_cases he:i=n
   ·subst he;rw [getD_of hn];exact hb
   ·exact hp i (by omega)
 ·have hge:¬ x8<es.length:=of_decide_eq_false hb
  unfold F172.B1
  refine k _ _ hG ?_
  have:es.any p=false:=by
   rw [List.any_eq_false]
   intro e he
   obtain ⟨i,hi,rfl⟩:=List.getElem_of_mem he
   have:=hp i (by omega)
   rw [getD_of hi] at this;simp [this]
  rw [this];simp
theorem containsE_ok {p:Int × Int→Bool} (h:Edges H v es) (hl:es.length≤4611686018427387904) (hf:∀ e∈es,Cl H f (ve e) (p e)) (k:∀ G,H.le G→K (.bool (es.any p)) G) :
 AC Tryz.prog T0 120 [v,f] H K:=by
 apply F120.ac
 unfold F120.B2 F120.B1
 refine indexE_ok h hl hf fun r G hG hr=>asI_mk ?_
 rw [hr];exact k G hG
theorem areAllE_ok {p:Int × Int→Bool} (h:Edges H v es) (hl:es.length≤4611686018427387904) (hf1:f.oneCell'=true) (hf:∀ e∈es,Cl H f (ve e) (p e)) (k:∀ G,H.le G→K (.bool (es.all p)) G) :
 AC Tryz.prog T0 62 [v,f] H K:=by
 apply F62.ac
 unfold F62.B2
 refine pif_t hf1 (newK_f (by simp [hf1]) fun H1 l1 n1 o1=>?_)
 unfold F62.B1
 refine containsE_ok (p:=fun e=>!p e) (h.le l1) hl (fun e he=>?_) fun G hG=>asB_mk ?_
 ·intro G hG K k
  refine callV_mk ?_
  apply F121.ac
  unfold F121.B2
  refine newK_f rfl fun H2 l2 n2 o2=>?_
  unfold F121.B1
  refine asP_mk (ld1_own (l2.2 _ _ (hG.2 _ _ o1)) rfl (ldI_own o2 rfl (ldI_own o2 rfl ?_)))
  exact hf e he _ (AHeap.le_trans l1 (AHeap.le_trans hG l2)) _ fun G' hG'=>asB_mk (k _ (AHeap.le_trans l2 hG'))
 ·have:=k G (AHeap.le_trans l1 hG)
  rw [show (!es.any fun e=>!p e)=es.all p by rw [List.all_eq_not_any_not]]
  exact this
theorem indexI_ok {p:Int→Bool} (h:Ints H v l) (hl:l.length≤4611686018427387904) (hf:∀ e∈l,Cl H f (.int .i64 e) (p e)) (k:∀ r G,H.le G→decide (r≥0)=l.any p→K (.int .i64 r) G) :
 AC Tryz.prog T0 205 [v,f] H K:=by
 apply F205.ac
 unfold F205.B9 F205.B8
 refine h.len ?_
 unfold F205.L2
 refine ⟨fun x0 x1 x7 x8 G=>x0=v∧x1=f∧x7=l.length∧0≤x8∧x8≤l.length∧H.le G∧∀ i:Nat,(i:Int)<x8→p (l.getD i 0)=false,fun _ _ _ x8 _=>l.length-x8.toNat,⟨rfl,rfl,rfl,by omega,by omega,AHeap.le_refl _,fun i hi=>absurd hi (by omega)⟩,?_⟩
 rintro x0 x1 x7 x8 G ⟨rfl,rfl,rfl,h0,h1,hG,hp⟩
 unfold F205.B7
 refine pif_cases (fun hb=>?_) fun hb=>?_
 ·have hlt:x8<l.length:=of_decide_eq_true hb
  obtain ⟨n,rfl⟩:∃ n:Nat,x8=n:=⟨x8.toNat,by omega⟩
  have hn:n<l.length:=by omega
  unfold F205.B6 F205.B5
  refine (h.le hG).rd h0 hlt ?_
  simp only [Int.toNat_natCast,getD_of hn]
  refine hf l[n] (List.getElem_mem hn) G hG _ fun G2 hG2=>asB_mk (pif_cases (fun hb=>?_) fun hb=>?_)
  ·unfold F205.B4
   refine k _ _ (AHeap.le_trans hG hG2) ?_
   rw [List.any_eq_true.2 ⟨l[n],List.getElem_mem hn,hb⟩];simp
  ·unfold F205.B3
   rw [wrap_id (by omega) (by omega)]
   refine ⟨⟨rfl,rfl,rfl,by omega,by omega,AHeap.le_trans hG hG2,fun i hi=>?_⟩,by simp;omega⟩
   by_cases he:i=n
   ·subst he;rw [getD_of hn];exact hb
   ·exact hp i (by omega)
 ·have hge:¬ x8<l.length:=of_decide_eq_false hb
  unfold F205.B1
  refine k _ _ hG ?_
  have:l.any p=false:=by
   rw [List.any_eq_false]
   intro e he
   obtain ⟨i,hi,rfl⟩:=List.getElem_of_mem he
   have:=hp i (by omega)
   rw [getD_of hi] at this;simp [this]
  rw [this];simp
theorem containsI_ok {p:Int→Bool} (h:Ints H v l) (hl:l.length≤4611686018427387904) (hf:∀ e∈l,Cl H f (.int .i64 e) (p e)) (k:∀ G,H.le G→K (.bool (l.any p)) G) :
 AC Tryz.prog T0 174 [v,f] H K:=by
 apply F174.ac
 unfold F174.B2 F174.B1
 refine indexI_ok h hl hf fun r G hG hr=>asI_mk ?_
 rw [hr];exact k G hG
theorem areAllI_ok {p:Int→Bool} (h:Ints H v l) (hl:l.length≤4611686018427387904) (hf1:f.oneCell'=true) (hf:∀ e∈l,Cl H f (.int .i64 e) (p e)) (k:∀ G,H.le G→K (.bool (l.all p)) G) :
 AC Tryz.prog T0 123 [v,f] H K:=by
 apply F123.ac
 unfold F123.B2
 refine pif_t hf1 (newK_f (by simp [hf1]) fun H1 l1 n1 o1=>?_)
 unfold F123.B1
 refine containsI_ok (p:=fun e=>!p e) (h.le l1) hl (fun e he=>?_) fun G hG=>asB_mk ?_
 ·intro G hG K k
  refine callV_mk ?_
  apply F175.ac
  unfold F175.B2
  unfold F175.B1
  refine asP_mk (ld1_own (hG.2 _ _ o1) rfl ?_)
  exact hf e he _ (AHeap.le_trans l1 hG) _ fun G' hG'=>asB_mk (k _ hG')
 ·have:=k G (AHeap.le_trans l1 hG)
  rw [show (!l.any fun e=>!p e)=l.all p by rw [List.all_eq_not_any_not]]
  exact this
end Go.Proofs
namespace Go.Proofs
open Go.Abs

variable {H:AHeap} {v u f:Value} {l m:List Int} {es fs:List (Int × Int)} {K:Value→AHeap→Prop}

def cmpI (a b:Int):Int:=if a<b then -1 else if a>b then 1 else 0
def cmpE (a b:Int × Int):Int:=if cmpI a.1 b.1≠0 then cmpI a.1 b.1 else cmpI a.2 b.2
theorem cmpE_neg (a b:Int × Int):cmpE a b<0↔ltE a b:=by
 unfold cmpE cmpI ltE
 repeat' split
 all_goals omega
theorem edges_one' {H:AHeap} {v:Value} {l:List (Int × Int)} (h:Edges H v l):v.oneCell'=true:=by
 rcases h with ⟨rfl,_⟩|⟨a,c,rfl,_⟩ <;> rfl
theorem isNaN_ok {a:Int} (k:K (.bool false) H):AC Tryz.prog T0 204 [.int .i64 a] H K:=by
 apply F204.ac
 unfold F204.B2 F204.B1
 simpa using k
theorem cmpCompare_ok {a b:Int} (k:K (.int .i64 (cmpI a b)) H):AC Tryz.prog T0 173 [.int .i64 a,.int .i64 b] H K:=by
 apply F173.ac
 unfold F173.B14 F173.B13
 refine isNaN_ok (asB_mk ?_)
 unfold F173.B12
 refine isNaN_ok (asB_mk ?_)
 unfold F173.B11
 refine pif_f rfl ?_
 unfold F173.B7
 refine pif_f rfl ?_
 unfold F173.B5
 unfold cmpI at k
 refine pif_cases (fun h=>?_) fun h=>?_
 ·unfold F173.B4;rw [if_pos (of_decide_eq_true h)] at k;exact k
 ·rw [if_neg (of_decide_eq_false h)] at k
  unfold F173.B3
  refine pif_cases (fun h=>?_) fun h=>?_
  ·unfold F173.B2;rw [if_pos (of_decide_eq_true h)] at k;exact k
  ·unfold F173.B1;rw [if_neg (of_decide_eq_false h)] at k;exact k
theorem compare2_ok {a b c d:Int} (h:Ints H v [a,b]) (g:Ints H u [c,d]) (k:K (.int .i64 (cmpE (a,b) (c,d))) H):AC Tryz.prog T0 122 [v,u] H K:=by
 apply F122.ac
 unfold F122.B15 F122.B14
 refine h.len ?_
 unfold F122.L4
 refine ⟨fun x0 x1 x9 x10 x11 G=>x0=v∧x1=u∧x9=v∧x10=2∧G=H∧(x11=0∨(x11=1∧cmpI a c=0)∨(x11=2∧cmpI a c=0∧cmpI b d=0)),fun _ _ _ _ x11 _=>2-x11.toNat,⟨rfl,rfl,rfl,rfl,rfl,.inl rfl⟩,?_⟩
 rintro x0 x1 x9 x10 x11 G ⟨rfl,rfl,rfl,rfl,rfl,p⟩
 unfold F122.B13
 rcases p with rfl|⟨rfl,p⟩|⟨rfl,p,q⟩
 ·refine pif_t rfl ?_
  unfold F122.B12
  refine h.rd (by decide) (by simp) ?_
  unfold F122.B11
  refine g.len (pif_f rfl ?_)
  unfold F122.B9
  refine g.rd (by decide) (by simp) ?_
  unfold F122.B8
  refine cmpCompare_ok (asI_mk ?_)
  unfold F122.B7
  refine pif_cases (fun hb=>?_) fun hb=>?_
  ·unfold F122.B6
   have hb:cmpI a c≠0:=by simpa using hb
   unfold cmpE at k
   rw [if_pos hb] at k;exact k
  ·unfold F122.B5
   exact ⟨⟨rfl,rfl,rfl,rfl,rfl,.inr (.inl ⟨rfl,by simpa using hb⟩)⟩,show 2-(IntKind.i64.wrap (0+1)).toNat<2-(0:Int).toNat by decide⟩
 ·refine pif_t rfl ?_
  unfold F122.B12
  refine h.rd (by decide) (by simp) ?_
  unfold F122.B11
  refine g.len (pif_f rfl ?_)
  unfold F122.B9
  refine g.rd (by decide) (by simp) ?_
  unfold F122.B8
  refine cmpCompare_ok (asI_mk ?_)
  unfold cmpE at k
  rw [if_neg (by simpa using p)] at k
  unfold F122.B7
  refine pif_cases (fun hb=>?_) fun hb=>?_
  ·unfold F122.B6
   exact k
  ·unfold F122.B5
   exact ⟨⟨rfl,rfl,rfl,rfl,rfl,.inr (.inr ⟨rfl,p,by simpa using hb⟩)⟩,show 2-(IntKind.i64.wrap (1+1)).toNat<2-(1:Int).toNat by decide⟩
 ·refine pif_f rfl ?_
  unfold F122.B3
  refine h.len (g.len (pif_f rfl ?_))
  unfold F122.B1
  unfold cmpE at k
  rw [if_neg (by simpa using p)] at k
  simp only [q] at k;exact k
theorem own_ints {b:Nat} {e:TypeId} {l:List Int} {c:Nat} (h:Own H b e (LI l)):Ints H (.slice (some ⟨b,0,none⟩) l.length c) l:=
 .inr ⟨_,_,rfl,.inr ⟨rfl,fun i x hx=>by rw [h.cell];simp [hx]⟩⟩
theorem compareEdges_ok {a b:Int × Int} (k:∀ G,H.le G→K (.int .i64 (cmpE a b)) G):AC Tryz.prog T0 65 [ve a,ve b] H K:=by
 apply F65.ac
 unfold F65.B2
 refine newK_f rfl fun H1 l1 n1 o1=>newK_f rfl fun H2 l2 n2 o2=>?_
 unfold F65.B1
 exact compare2_ok (own_ints (l:=[a.1,a.2]) (l2.2 _ _ o1)) (own_ints (l:=[b.1,b.2]) o2) (asI_mk (k _ (AHeap.le_trans l1 l2)))
theorem isSorted_ok (h:Edges H v es) (hl:es.length≤4611686018427387904) [Decidable (Srt es)] (k:∀ G,H.le G→K (.bool (decide (Srt es))) G):AC Tryz.prog T0 64 [v,.func (.func 65) ⟨[]⟩ ⟨[]⟩] H K:=by
 apply F64.ac
 unfold F64.B8 F64.B7
 refine h.len ?_
 rw [wrap_id (by omega) (by omega)]
 unfold F64.L2
 refine ⟨fun x0 x1 x5 G=>x0=v∧x1=.func (.func 65) ⟨[]⟩ ⟨[]⟩∧-1≤x5∧x5<es.length∧H.le G∧∀ i,x5≤(i:Nat)→i+1<es.length→¬ ltE (es.getD (i+1) (0,0)) (es.getD i (0,0)),fun _ _ x5 _=>(x5+1).toNat,⟨rfl,rfl,by omega,by omega,AHeap.le_refl _,fun i hi hi2=>absurd hi (by omega)⟩,?_⟩
 rintro x0 x1 x5 G ⟨rfl,rfl,h0,h1,hG,hp⟩
 unfold F64.B6
 refine pif_cases (fun hb=>?_) fun hb=>?_
 ·have hgt:x5>0:=of_decide_eq_true hb
  obtain ⟨n,rfl⟩:∃ n:Nat,x5=(n:Int)+1:=⟨(x5-1).toNat,by omega⟩
  unfold F64.B5
  rw [wrap_id (by omega) (by omega)]
  obtain ⟨b,o,hk,c1,c2⟩:=(h.le hG).idx (show (0:Int)≤(n:Int)+1 by omega) h1
  obtain ⟨b',o',hk',c1',c2'⟩:=(h.le hG).idx (show (0:Int)≤(n:Int)+1-1 by omega) (by omega)
  refine hk _ (ldI_mk c1 (ldI_mk c2 (hk' _ (ldI_mk c1' (ldI_mk c2' (callV_mk (compareEdges_ok (a:=es.getD (((n:Int)+1).toNat) (0,0)) (b:=es.getD (((n:Int)+1-1).toNat) (0,0)) fun G2 hG2=>asI_mk ?_)))))))
  rw [show ((n:Int)+1).toNat=n+1 by omega,show ((n:Int)+1-1).toNat=n by omega]
  refine pif_cases (fun hb=>?_) fun hb=>?_
  ·unfold F64.B4
   have:=k _ (AHeap.le_trans hG hG2)
   rw [decide_eq_false (fun hs=>hs n (by omega) ((cmpE_neg _ _).1 (of_decide_eq_true hb)))] at this;exact this
  ·unfold F64.B3
   rw [wrap_id (by omega) (by omega)]
   refine ⟨⟨rfl,rfl,by omega,by omega,AHeap.le_trans hG hG2,fun i hi hi2=>?_⟩,show ((n:Int)+1-1+1).toNat<((n:Int)+1+1).toNat by omega⟩
   by_cases he:i=n
   ·subst he;exact fun hs=>of_decide_eq_false hb ((cmpE_neg _ _).2 hs)
   ·exact hp i (by omega) hi2
 ·have hle:¬ x5>0:=of_decide_eq_false hb
  unfold F64.B1
  have:=k _ hG
  rw [decide_eq_true (show Srt es from fun i hi=>hp i (by omega) hi)] at this;exact this
theorem mkR_int {bytes:Nat} {e:TypeId} {zs:List Value} {n:Int} {K:Value→AHeap→Prop} (h0:0≤n) (h1:n≤4294967296) (h2:bytes≤1024)
 (h:∀ G,H.le G→G.length=H.length+1→Own G H.length e (List.replicate n.toNat zs).flatten→K (.slice (some ⟨H.length,0,none⟩) n.toNat (n.toNat+1)) G):mkR H bytes e zs n n K:=
 ⟨h0,Int.le_refl _,h1,h2,h _ (le_snoc _ _) (by simp) (by simp [Own])⟩
theorem rep_one (n:Nat):(List.replicate n [Value.int .i64 0]).flatten=LI (List.replicate n 0):=by
 induction n with
 | zero=>rfl
 | succ n ih=>rw [List.replicate_succ,List.replicate_succ,List.flatten_cons,ih];rfl
theorem bump_at {b:Nat} {e:TypeId} {cs:List Int} {x:Int} {K:AHeap→Prop} (ho:Own H b e (LI cs)) (h0:0≤x) (h1:x<cs.length) (hb:∀ c∈cs,0≤c∧c≤1000000000000) (k:∀ G,But b H G→Own G b e (LI (bump1 cs x))→K G) :
 idxK (.slice (some ⟨b,0,none⟩) cs.length (cs.length+1)) x 1 (fun b2 o3=>ldI .i64 H b2 o3 (fun v4=>idxK (.slice (some ⟨b,0,none⟩) cs.length (cs.length+1)) x 1 (fun b5 o6=>stK H b5 o6 [(Value.int .i64 (IntKind.i64.wrap (v4+1)))] K))):=by
 refine (own_ints (c:=cs.length+1) ho).rd h0 h1 ⟨h0,h1,stK_1 ho (by simp;omega) rfl fun G hG o=>k G hG ?_⟩
 have hx:x.toNat<cs.length:=by omega
 have:=hb cs[x.toNat] (List.getElem_mem hx)
 rw [getD_of hx,wrap_id (by omega) (by omega),← List.map_set,← getD_of (d:=0) hx] at o
 simpa [bump1] using o
theorem isThree_cl:∀ c:Int,Cl H (.func (.func 124) ⟨[]⟩ ⟨[]⟩) (.int .i64 c) (c==3):=by
 intro c G hG K k
 refine callV_mk ?_
 apply F124.ac
 unfold F124.B2 F124.B1
 exact k _ (AHeap.le_refl _)
theorem isCubic_ok {n:Int} (h:Edges H v es) (hd:IsEd n es) (k:∀ G,H.le G→K (.bool (decide (Cub n es))) G):AC Tryz.prog T0 66 [.int .i64 n,v] H K:=by
 have:=hd.lo;have:=hd.hi;have hlen:=hd.len
 apply F66.ac
 unfold F66.B10 F66.B9
 refine mkR_int (by omega) (by omega) (by decide) fun H1 l1 n1 o1=>?_
 unfold F66.B8
 refine h.len ?_
 unfold F66.L2
 rw [rep_one] at o1
 refine ⟨fun x5 x10 x11 x12 G=>x5=.slice (some ⟨H.length,0,none⟩) n.toNat (n.toNat+1)∧x10=v∧x11=es.length∧0≤x12∧x12≤es.length∧H.le G∧Own G H.length 3 (LI (counts n (es.take x12.toNat))),fun _ _ _ x12 _=>es.length-x12.toNat,⟨rfl,rfl,rfl,by omega,by omega,l1,by simpa [counts] using o1⟩,?_⟩
 rintro x5 x10 x11 x12 G ⟨rfl,rfl,rfl,h0,h1,hG,ho⟩
 unfold F66.B7
 refine pif_cases (fun hb=>?_) fun hb=>?_
 ·have hlt:x12<es.length:=of_decide_eq_true hb
  obtain ⟨i,rfl⟩:∃ i:Nat,x12=i:=⟨x12.toNat,by omega⟩
  have hi:i<es.length:=by omega
  unfold F66.B6
  obtain ⟨b,o,hk,c1,c2⟩:=(h.le hG).idx h0 hlt
  refine hk _ (ldI_mk c1 (ldI_mk c2 (newK_f rfl fun H2 l2 n2 o2=>stK_f o2 (by simp) (by simp [Value.oneCell']) rfl fun H3 b3 o3=>?_)))
  simp only [Int.toNat_natCast,getD_of hi] at o3
  have hGl:=lt_of_get ho
  have ho3:=b3.own (l2.2 _ _ ho) (by omega)
  have l3:H.le H3:=b3.le (AHeap.le_trans hG l2) hG.1
  obtain ⟨e1,e2,e3,e4,_⟩:=hd.ends es[i] (List.getElem_mem hi)
  have cl:(counts n (es.take i)).length=n.toNat:=counts_length _ _
  have cb:∀ c∈counts n (es.take i),0≤c∧c≤1000:=fun c hc=>by have:=counts_le _ _ c hc;simp at this;omega
  unfold F66.B5
  refine ldI_own o3 rfl ?_
  have hs:∀ cs:List Int,cs.length=n.toNat→(.slice (some ⟨H.length,0,none⟩) n.toNat (n.toNat+1):Value)=.slice (some ⟨H.length,0,none⟩) cs.length (cs.length+1):=fun cs h=>by rw [h]
  rw [hs _ cl]
  simp only [Int.toNat_natCast] at ho3
  refine bump_at ho3 e1 (by omega) (fun c hc=>by have:=cb c hc;omega) fun H4 b4 o4=>?_
  rw [← hs _ cl]
  unfold F66.B4
  have o34:=b4.own o3 (by have:=hG.1;omega)
  refine ldI_own o34 rfl ?_
  rw [hs _ ((bump1_length _ _).trans cl)]
  refine bump_at o4 e3 (by rw [bump1_length];omega) (fun c hc=>by have:=bump1_le cb _ c hc;omega) fun H5 b5 o5=>?_
  rw [← hs _ ((bump1_length _ _).trans cl)]
  unfold F66.B3
  rw [wrap_id (by omega) (by omega)]
  refine ⟨⟨rfl,rfl,rfl,by omega,by omega,b5.le (b4.le l3 (Nat.le_refl _)) (Nat.le_refl _),?_⟩,by simp;omega⟩
  rw [show ((i:Int)+1).toNat=i+1 by omega,counts_take n es hi]
  exact o5
 ·have hge:¬ x12<es.length:=of_decide_eq_false hb
  have:x12=es.length:=by omega
  subst this
  simp only [Int.toNat_natCast,List.take_length] at ho
  unfold F66.B1
  have cl:(counts n es).length=n.toNat:=counts_length _ _
  have hi:=own_ints (c:=n.toNat+1) ho
  rw [cl] at hi
  refine areAllI_ok (p:=fun c=>c==3) hi (by omega) rfl (fun c _=>isThree_cl c) fun G2 hG2=>asB_mk ?_
  have:=k _ (AHeap.le_trans hG hG2)
  have e:(counts n es).all (fun c=>c==3)=decide (Cub n es):=by
   rw [Bool.eq_iff_iff,List.all_eq_true,decide_eq_true_iff]
   simp [Cub]
  rw [e];exact this
theorem areEdges_ok {n:Int} (h:Edges H v es) (hl:es.length≤1048576) (k:∀ G,H.le G→K (.bool (decide (IsEd n es))) G):AC Tryz.prog T0 61 [.int .i64 n,v] H K:=by
 apply F61.ac
 unfold F61.B2
 refine newK_f rfl fun H1 l1 n1 o1=>?_
 unfold F61.B1
 refine ldI_own o1 rfl (isSize_ok (asB_mk (pif_cases (fun hs=>?_) fun hs=>?_)))
 ·obtain ⟨s1,s2,s3⟩:=of_decide_eq_true hs
  refine ldI_own o1 rfl (lengthE_ok (h.le l1) (asI_mk ⟨AHeap.le_refl _,?_⟩))
  rw [wrap_id (x:=3*n) (by omega) (by omega),show Int.tdiv (3*n) 2=3*n/2 from Int.tdiv_eq_ediv_of_nonneg (by omega),wrap_id (by omega) (by omega)]
  refine pif_cases (fun hs=>?_) fun hs=>?_
  ·have hlen:(es.length:Int)=3*n/2:=by simpa using hs
   refine areAllE_ok (p:=fun e=>decide (0≤e.1∧e.1≤n-1)&&(decide (0≤e.2∧e.2≤n-1)&&(e.1 != e.2))) (h.le l1) (by omega) rfl (fun e he=>?_) fun G hG=>asB_mk ?_
   ·intro G hG K k
    refine callV_mk ?_
    apply F119.ac
    unfold F119.B2
    refine newK_f rfl fun H2 l2 n2 o2=>?_
    have o1:=l2.2 _ _ (hG.2 _ _ o1)
    unfold F119.B1
    refine ldI_own o2 rfl (asP_mk (ldI_own o1 rfl (within_ok (asB_mk ?_))))
    rw [wrap_id (by omega) (by omega)]
    have k:=k _ l2
    refine pif_cases (fun hb=>?_) fun hb=>?_
    ·rw [hb,Bool.true_and] at k
     refine ldI_own o2 rfl (asP_mk (ldI_own o1 rfl (within_ok (asB_mk ?_))))
     rw [wrap_id (by omega) (by omega)]
     refine pif_cases (fun hb=>?_) fun hb=>?_
     ·rw [hb,Bool.true_and] at k
      exact ldI_own o2 rfl (ldI_own o2 rfl k)
     ·rw [hb,Bool.false_and] at k;exact k
    ·rw [hb,Bool.false_and] at k;exact k
   ·have:=k _ (AHeap.le_trans l1 hG)
    have e:(es.all fun e=>decide (0≤e.1∧e.1≤n-1)&&(decide (0≤e.2∧e.2≤n-1)&&(e.1 != e.2)))=decide (IsEd n es):=by
     rw [Bool.eq_iff_iff,List.all_eq_true,decide_eq_true_iff]
     constructor
     ·intro h
      refine ⟨s1,s2,s3,hlen,fun e he=>?_⟩
      have:=h e he
      simp only [Bool.and_eq_true,decide_eq_true_eq,bne_iff_ne] at this
      exact ⟨this.1.1,this.1.2,this.2.1.1,this.2.1.2,this.2.2⟩
     ·intro h e he
      obtain ⟨h1,h2,h3,h4,h5⟩:=h.ends e he
      simp [h1,h2,h3,h4,h5]
    rw [e];exact this
  ·have:=k _ l1
   rw [decide_eq_false (fun hd=>by have:=hd.len;simp at hs;omega)] at this;exact this
 ·have:=k _ l1
  rw [decide_eq_false (fun hd=>of_decide_eq_false hs ⟨hd.lo,hd.hi,hd.even⟩)] at this;exact this
noncomputable instance (es:List (Int × Int)):Decidable (Srt es):=Classical.propDecidable _
theorem IsGraph_ok {n:Int} (h:Edges H v es) (hl:es.length≤1048576) (k:∀ G,H.le G→K (.bool (decide (IsG n es))) G):AC Tryz.prog T0 13 [.agg ⟨[.int .i64 n,v]⟩] H K:=by
 apply F13.ac
 unfold F13.B2
 refine newK_f (all_iv (edges_one' h)) fun H1 l1 n1 o1=>?_
 unfold F13.B1
 refine ldI_own o1 rfl (ld1_own o1 rfl (areEdges_ok (h.le l1) hl fun H2 l2=>asB_mk (pif_cases (fun hb=>?_) fun hb=>?_)))
 ·have hd:=of_decide_eq_true hb
  have o2:=l2.2 _ _ o1
  refine ld1_own o2 rfl (areAllE_ok (p:=fun e=>decide (e.1<e.2)) (h.le (AHeap.le_trans l1 l2)) (by omega) rfl (fun e he=>?_) fun H3 l3=>asB_mk (pif_cases (fun hb=>?_) fun hb=>?_))
  ·intro G hG K k
   refine callV_mk ?_
   apply F63.ac
   unfold F63.B2
   refine newK_f rfl fun H2 l2 n2 o2=>?_
   unfold F63.B1
   exact ldI_own o2 rfl (ldI_own o2 rfl (k _ l2))
  ·have hup:∀ e∈es,e.1<e.2:=fun e he=>of_decide_eq_true (List.all_eq_true.1 hb e he)
   have o3:=l3.2 _ _ o2
   have l13:=AHeap.le_trans l1 (AHeap.le_trans l2 l3)
   refine ld1_own o3 rfl (isSorted_ok (h.le l13) (by omega) fun H4 l4=>asB_mk (pif_cases (fun hb=>?_) fun hb=>?_))
   ·have o4:=l4.2 _ _ o3
    refine ldI_own o4 rfl (ld1_own o4 rfl (isCubic_ok (h.le (AHeap.le_trans l13 l4)) hd fun H5 l5=>asB_mk ?_))
    have:=k _ (AHeap.le_trans l13 (AHeap.le_trans l4 l5))
    have e:decide (IsG n es)=decide (Cub n es):=by
     rw [decide_eq_decide]
     exact ⟨fun h=>h.cub,fun h=>⟨hd,hup,of_decide_eq_true hb,h⟩⟩
    rw [e] at this;exact this
   ·have:=k _ (AHeap.le_trans l13 l4)
    rw [decide_eq_false (fun hg=>of_decide_eq_false hb hg.srt)] at this;exact this
  ·have:=k _ (AHeap.le_trans l1 (AHeap.le_trans l2 l3))
   rw [decide_eq_false (fun hg=>by
    have:es.all (fun e=>decide (e.1<e.2))=true:=List.all_eq_true.2 fun e he=>decide_eq_true (hg.up e he)
    rw [this] at hb;cases hb)] at this;exact this
 ·have:=k _ (AHeap.le_trans l1 l2)
  rw [decide_eq_false (fun hg=>of_decide_eq_false hb hg.ed)] at this;exact this
theorem graphCode_ok {n:Int} {b:Bool} (h:Edges H v es) (hl:es.length≤1048576) (k:∀ G,H.le G→K (.int .i64 (if IsG n es then (if b then 0 else 2) else 1)) G):AC Tryz.prog T0 55 [.agg ⟨[.int .i64 n,v]⟩,.bool b] H K:=by
 apply F55.ac
 unfold F55.B6
 refine newK_f (all_iv (edges_one' h)) fun H1 l1 n1 o1=>?_
 unfold F55.B5
 refine ldI_own o1 rfl (ld1_own o1 rfl (IsGraph_ok (h.le l1) hl fun H2 l2=>asB_mk ?_))
 have k:=k _ (AHeap.le_trans l1 l2)
 refine pif_cases (fun hb=>?_) fun hb=>?_
 ·unfold F55.B2
  rw [if_neg (of_decide_eq_false (by simpa using hb))] at k;exact k
 ·rw [if_pos (of_decide_eq_true (by simpa using hb))] at k
  unfold F55.B4
  cases b
  ·exact pif_t rfl k
  ·exact pif_f rfl k
end Go.Proofs
namespace Go.Proofs
open Go.Abs

variable {H:AHeap} {v u f:Value} {l m:List Int} {es fs:List (Int × Int)} {K:Value→AHeap→Prop}

theorem l01Before_ok {a b:Int × Int} (k:∀ G,H.le G→K (.bool (decide (ltE a b))) G):AC Tryz.prog T0 131 [.agg ⟨[.int .i64 a.1,.int .i64 a.2]⟩,.agg ⟨[.int .i64 b.1,.int .i64 b.2]⟩] H K:=by
 apply F131.ac
 unfold F131.B2
 refine newK_f rfl fun H1 l1 n1 o1=>newK_f rfl fun H2 l2 n2 o2=>?_
 have o1:=l2.2 _ _ o1
 have k:=k _ (AHeap.le_trans l1 l2)
 unfold F131.B1
 refine ldI_own o1 rfl (ldI_own o2 rfl (pif_cases (fun h=>?_) fun h=>?_))
 ·rw [decide_eq_true (show ltE a b from .inl (of_decide_eq_true h))] at k;exact k
 ·have h:=of_decide_eq_false h
  refine ldI_own o1 rfl (ldI_own o2 rfl (pif_cases (fun g=>?_) fun g=>?_))
  ·refine ldI_own o1 rfl (ldI_own o2 rfl ?_)
   have g:a.1=b.1:=by simpa using g
   have e:decide (a.2<b.2)=decide (ltE a b):=by rw [decide_eq_decide];unfold ltE;omega
   rw [e];exact k
  ·have g:a.1≠b.1:=by simpa using g
   rw [decide_eq_false (by unfold ltE;omega)] at k;exact k
theorem l01Ends_ok {n:Int} (h:Edges H v es) (hl:es.length≤1048576) (k:K (.int .i64 (if IsEd n es then 0 else 2)) H):AC Tryz.prog T0 129 [.int .i64 n,v] H K:=by
 apply F129.ac
 unfold F129.B10 F129.B9
 have no:¬ IsEd n es→F129.B8 K H:=by
  intro hno
  unfold F129.B8;rw [if_neg hno] at k;exact k
 refine l01In_ok (asB_mk (pif_cases (fun hs=>?_) fun hs=>?_))
 ·rw [Bool.not_eq_true'] at hs
  exact no fun hd=>of_decide_eq_false hs ⟨hd.lo,hd.hi⟩
 ·rw [Bool.not_eq_false'] at hs
  obtain ⟨s1,s2⟩:=of_decide_eq_true hs
  refine pif_cases (fun hs=>?_) fun hs=>?_
  ·exact no fun hd=>by have:=hd.even;rw [Int.tmod_eq_emod_of_nonneg (by omega)] at hs;simp [this] at hs
  ·have s3:n%2=0:=by rw [Int.tmod_eq_emod_of_nonneg (by omega)] at hs;simpa using hs
   refine h.len ?_
   rw [wrap_id (x:=3*n) (by omega) (by omega),show Int.tdiv (3*n) 2=3*n/2 from Int.tdiv_eq_ediv_of_nonneg (by omega),wrap_id (by omega) (by omega)]
   refine pif_cases (fun hs=>?_) fun hs=>?_
   ·exact no fun hd=>by have:=hd.len;simp [this] at hs
   ·have hlen:(es.length:Int)=3*n/2:=by simpa using hs
    unfold F129.B7 F129.L2
    refine ⟨fun x0 x1 x5 G=>x0=n∧x1=v∧0≤x5∧x5≤es.length∧G=H∧∀ i:Nat,(i:Int)<x5→0≤(es.getD i (0,0)).1∧(es.getD i (0,0)).1≤n-1∧0≤(es.getD i (0,0)).2∧(es.getD i (0,0)).2≤n-1∧(es.getD i (0,0)).1≠(es.getD i (0,0)).2,
     fun _ _ x5 _=>es.length-x5.toNat,⟨rfl,rfl,by omega,by omega,rfl,fun i hi=>absurd hi (by omega)⟩,?_⟩
    rintro x0 x1 x5 G ⟨rfl,rfl,h0,h1,rfl,hp⟩
    unfold F129.B6
    refine h.len (pif_cases (fun hb=>?_) fun hb=>?_)
    ·have hlt:x5<es.length:=of_decide_eq_true hb
     obtain ⟨i,rfl⟩:∃ i:Nat,x5=i:=⟨x5.toNat,by omega⟩
     have hi:i<es.length:=by omega
     have no:¬ (0≤(es.getD i (0,0)).1∧(es.getD i (0,0)).1≤x0-1∧0≤(es.getD i (0,0)).2∧(es.getD i (0,0)).2≤x0-1∧(es.getD i (0,0)).1≠(es.getD i (0,0)).2)→∀ N,F129.B4 K N G:=by
      intro hno N
      unfold F129.B4
      rw [if_neg (fun hd=>hno (by have:=hd.ends _ (List.getElem_mem hi);rw [getD_of hi];exact this))] at k;exact k
     unfold F129.B5
     obtain ⟨b,o,hk,c1,c2⟩:=h.idx h0 hlt
     simp only [Int.toNat_natCast] at c1 c2
     refine hk _ (ldI_mk c1 (l01In_ok (asB_mk ?_)))
     rw [wrap_id (by omega) (by omega)]
     refine pif_cases (fun hs=>?_) fun hs=>?_
     ·rw [Bool.not_eq_true'] at hs
      exact no (fun hy=>of_decide_eq_false hs ⟨hy.1,hy.2.1⟩) _
     ·rw [Bool.not_eq_false'] at hs
      obtain ⟨t1,t2⟩:=of_decide_eq_true hs
      refine hk _ (ldI_mk c2 (l01In_ok (asB_mk (pif_cases (fun hs=>?_) fun hs=>?_))))
      ·rw [Bool.not_eq_true'] at hs
       exact no (fun hy=>of_decide_eq_false hs ⟨hy.2.2.1,hy.2.2.2.1⟩) _
      ·rw [Bool.not_eq_false'] at hs
       obtain ⟨t3,t4⟩:=of_decide_eq_true hs
       refine hk _ (ldI_mk c1 (hk _ (ldI_mk c2 (pif_cases (fun hs=>?_) fun hs=>?_))))
       ·exact no (fun hy=>hy.2.2.2.2 (by simpa using hs)) _
       ·unfold F129.B3
        rw [wrap_id (x:=(i:Int)+1) (by omega) (by omega)]
        refine ⟨⟨rfl,rfl,by omega,by omega,rfl,fun j hj=>?_⟩,by simp;omega⟩
        by_cases he:j=i
        ·subst he;exact ⟨t1,t2,t3,t4,by simpa using hs⟩
        ·exact hp j (by omega)
    ·have hge:¬ x5<es.length:=of_decide_eq_false hb
     unfold F129.B1
     rw [if_pos (⟨s1,s2,s3,hlen,fun e he=>by
      obtain ⟨i,hi,rfl⟩:=List.getElem_of_mem he
      have:=hp i (by omega)
      rwa [getD_of hi] at this⟩:IsEd x0 es)] at k
     exact k
theorem l01Cubic_ok {n:Int} (h:Edges H v es) (hd:IsEd n es) (k:∀ G,H.le G→K (.bool (decide (Cub n es))) G):AC Tryz.prog T0 130 [.int .i64 n,v] H K:=by
 have:=hd.lo;have:=hd.hi;have hlen:=hd.len
 apply F130.ac
 unfold F130.B15 F130.B14
 refine mkR_int (by omega) (by omega) (by decide) fun H1 l1 n1 o1=>?_
 unfold F130.B13 F130.L8
 rw [rep_one] at o1
 refine ⟨fun x0 x1 x5 x6 G=>x0=n∧x1=v∧x5=.slice (some ⟨H.length,0,none⟩) n.toNat (n.toNat+1)∧0≤x6∧x6≤es.length∧H.le G∧Own G H.length 2 (LI (counts n (es.take x6.toNat))),fun _ _ _ x6 _=>es.length-x6.toNat,⟨rfl,rfl,rfl,by omega,by omega,l1,by simpa [counts] using o1⟩,?_⟩
 rintro x0 x1 x5 x6 G ⟨rfl,rfl,rfl,h0,h1,hG,ho⟩
 unfold F130.B12
 refine h.len (pif_cases (fun hb=>?_) fun hb=>?_)
 ·have hlt:x6<es.length:=of_decide_eq_true hb
  obtain ⟨i,rfl⟩:∃ i:Nat,x6=i:=⟨x6.toNat,by omega⟩
  have hi:i<es.length:=by omega
  unfold F130.B11
  obtain ⟨b,o,hk,c1,c2⟩:=(h.le hG).idx h0 hlt
  obtain ⟨e1,e2,e3,e4,_⟩:=hd.ends es[i] (List.getElem_mem hi)
  simp only [Int.toNat_natCast,getD_of hi] at c1 c2 ho
  have cl:(counts x0 (es.take i)).length=x0.toNat:=counts_length _ _
  have cb:∀ c∈counts x0 (es.take i),0≤c∧c≤1000:=fun c hc=>by have:=counts_le _ _ c hc;simp at this;omega
  have hs:∀ cs:List Int,cs.length=x0.toNat→(.slice (some ⟨H.length,0,none⟩) x0.toNat (x0.toNat+1):Value)=.slice (some ⟨H.length,0,none⟩) cs.length (cs.length+1):=fun cs h=>by rw [h]
  refine hk _ (ldI_mk c1 ?_)
  rw [hs _ cl]
  refine bump_at ho e1 (by omega) (fun c hc=>by have:=cb c hc;omega) fun H4 b4 o4=>?_
  rw [← hs _ cl]
  unfold F130.B10
  have l4:=b4.le hG (Nat.le_refl _)
  obtain ⟨b',o',hk',c1',c2'⟩:=(h.le l4).idx h0 hlt
  simp only [Int.toNat_natCast,getD_of hi] at c1' c2'
  refine hk' _ (ldI_mk c2' ?_)
  rw [hs _ ((bump1_length _ _).trans cl)]
  refine bump_at o4 e3 (by rw [bump1_length];omega) (fun c hc=>by have:=bump1_le cb _ c hc;omega) fun H5 b5 o5=>?_
  rw [← hs _ ((bump1_length _ _).trans cl)]
  unfold F130.B9
  rw [wrap_id (by omega) (by omega)]
  refine ⟨⟨rfl,rfl,rfl,by omega,by omega,b5.le l4 (Nat.le_refl _),?_⟩,by simp;omega⟩
  rw [show ((i:Int)+1).toNat=i+1 by omega,counts_take x0 es hi]
  exact o5
 ·have hge:¬ x6<es.length:=of_decide_eq_false hb
  have:x6=es.length:=by omega
  subst this
  simp only [Int.toNat_natCast,List.take_length] at ho
  have cl:(counts x0 es).length=x0.toNat:=counts_length _ _
  have hi:=own_ints (c:=x0.toNat+1) ho
  rw [cl] at hi
  unfold F130.B7 F130.L2
  refine ⟨fun y0 y5 y7 G'=>y0=x0∧y5=.slice (some ⟨H.length,0,none⟩) x0.toNat (x0.toNat+1)∧0≤y7∧y7≤x0∧G'=G∧∀ i:Nat,(i:Int)<y7→(counts x0 es).getD i 0=3,fun _ _ y7 _=>(x0-y7).toNat,⟨rfl,rfl,by omega,by omega,rfl,fun i hi=>absurd hi (by omega)⟩,?_⟩
  rintro y0 y5 y7 G' ⟨rfl,rfl,g0,g1,rfl,hp⟩
  unfold F130.B6
  have k:=k _ hG
  refine pif_cases (fun hb=>?_) fun hb=>?_
  ·have hlt:y7<y0:=of_decide_eq_true hb
   obtain ⟨i,rfl⟩:∃ i:Nat,y7=i:=⟨y7.toNat,by omega⟩
   unfold F130.B5
   refine hi.rd g0 (by omega) ?_
   simp only [Int.toNat_natCast]
   refine pif_cases (fun hs=>?_) fun hs=>?_
   ·unfold F130.B4
    have hil:i<(counts y0 es).length:=by omega
    rw [getD_of hil] at hs
    rw [decide_eq_false (fun hc:Cub y0 es=>by have:=hc _ (List.getElem_mem hil);simp [this] at hs)] at k;exact k
   ·unfold F130.B3
    rw [wrap_id (by omega) (by omega)]
    refine ⟨⟨rfl,rfl,by omega,by omega,rfl,fun j hj=>?_⟩,show (y0-((i:Int)+1)).toNat<(y0-(i:Int)).toNat by omega⟩
    by_cases he:j=i
    ·subst he;exact bne_eq_false_iff_eq.1 hs
    ·exact hp j (by omega)
  ·have hge:¬ y7<y0:=of_decide_eq_false hb
   unfold F130.B1
   rw [decide_eq_true (show Cub y0 es from fun c hc=>by
    obtain ⟨i,hi,rfl⟩:=List.getElem_of_mem hc
    have:=hp i (by omega)
    rwa [getD_of hi] at this)] at k
   exact k
theorem l01Is_ok {n:Int} (h:Edges H v es) (hl:es.length≤1048576) (k:∀ G,H.le G→K (.bool (decide (IsG n es))) G):AC Tryz.prog T0 68 [.agg ⟨[.int .i64 n,v]⟩] H K:=by
 apply F68.ac
 unfold F68.B10
 refine newK_f (all_iv (edges_one' h)) fun H1 l1 n1 o1=>?_
 unfold F68.B9
 refine ldI_own o1 rfl (ld1_own o1 rfl (l01Ends_ok (h.le l1) hl (asI_mk ?_)))
 refine pif_cases (fun hb=>?_) fun hb=>?_
 ·unfold F68.B8
  have k:=k _ l1
  rw [decide_eq_false (fun hg=>by rw [if_pos hg.ed] at hb;simp at hb)] at k;exact k
 ·have hd:IsEd n es:=by
   by_cases hd:IsEd n es
   ·exact hd
   ·rw [if_neg hd] at hb;simp at hb
  refine ldI_own o1 rfl (ld1_own o1 rfl (l01Cubic_ok (h.le l1) hd fun H2 l2=>asB_mk ?_))
  have l12:=AHeap.le_trans l1 l2
  have o2:=l2.2 _ _ o1
  refine pif_cases (fun hb=>?_) fun hb=>?_
  ·unfold F68.B8
   rw [Bool.not_eq_true'] at hb
   have k:=k _ l12
   rw [decide_eq_false (fun hg=>of_decide_eq_false hb hg.cub)] at k;exact k
  ·rw [Bool.not_eq_false'] at hb
   have hc:Cub n es:=of_decide_eq_true hb
   unfold F68.B7 F68.L2
   refine ⟨fun x1 x3 G=>x1=H.length∧0≤x3∧x3≤es.length∧H.le G∧Own G H.length 31 [.int .i64 n,v]∧∀ i:Nat,(i:Int)<x3→¬ (es.getD i (0,0)).1>(es.getD i (0,0)).2∧(0<i→¬ ltE (es.getD i (0,0)) (es.getD (i-1) (0,0))),
    fun _ x3 _=>es.length-x3.toNat,⟨rfl,by omega,by omega,l12,o2,fun i hi=>absurd hi (by omega)⟩,?_⟩
   rintro x1 x3 G ⟨rfl,h0,h1,hG,ho,hp⟩
   unfold F68.B6
   refine ld1_own ho rfl ((h.le hG).len (pif_cases (fun hb=>?_) fun hb=>?_))
   ·have hlt:x3<es.length:=of_decide_eq_true hb
    obtain ⟨i,rfl⟩:∃ i:Nat,x3=i:=⟨x3.toNat,by omega⟩
    have hi:i<es.length:=by omega
    have no:∀ G,H.le G→¬ (¬ (es.getD i (0,0)).1>(es.getD i (0,0)).2∧(0<i→¬ ltE (es.getD i (0,0)) (es.getD (i-1) (0,0))))→∀ N,F68.B4 K N G:=by
     intro G hG hno N
     unfold F68.B4
     have k:=k _ hG
     rw [decide_eq_false (fun hg:IsG n es=>hno ⟨by have:=hg.up _ (List.getElem_mem hi);rw [getD_of hi];omega,fun hi0=>by
      have:=hg.srt (i-1) (by omega)
      rwa [show i-1+1=i by omega] at this⟩)] at k;exact k
    have yes:(¬ (es.getD i (0,0)).1>(es.getD i (0,0)).2∧(0<i→¬ ltE (es.getD i (0,0)) (es.getD (i-1) (0,0))))→∀ j:Nat,(j:Int)<(i:Int)+1→¬ (es.getD j (0,0)).1>(es.getD j (0,0)).2∧(0<j→¬ ltE (es.getD j (0,0)) (es.getD (j-1) (0,0))):=by
     intro hy j hj
     by_cases he:j=i
     ·subst he;exact hy
     ·exact hp j (by omega)
    unfold F68.B5
    obtain ⟨b,o,hk,c1,c2⟩:=(h.le hG).idx h0 hlt
    simp only [Int.toNat_natCast] at c1 c2
    refine ld1_own ho rfl (hk _ (ldI_mk c1 (ld1_own ho rfl (hk _ (ldI_mk c2 (pif_cases (fun hs=>?_) fun hs=>?_))))))
    ·exact no _ hG (fun hy=>hy.1 (of_decide_eq_true hs)) _
    ·have hs:=of_decide_eq_false hs
     refine pif_cases (fun ht=>?_) fun ht=>?_
     ·have hi0:0<i:=by have:=of_decide_eq_true ht;omega
      rw [wrap_id (by omega) (by omega)]
      obtain ⟨b',o',hk',c1',c2'⟩:=(h.le hG).idx (show (0:Int)≤(i:Int)-1 by omega) (by omega)
      rw [show ((i:Int)-1).toNat=i-1 by omega] at c1' c2'
      refine ld1_own ho rfl (hk _ (ldI_mk c1 (ldI_mk c2 (ld1_own ho rfl (hk' _ (ldI_mk c1' (ldI_mk c2' (l01Before_ok fun G2 hG2=>asB_mk (pif_cases (fun hb=>?_) fun hb=>?_)))))))))
      ·exact no _ (AHeap.le_trans hG hG2) (fun hy=>hy.2 hi0 (of_decide_eq_true hb)) _
      ·unfold F68.B3
       rw [wrap_id (by omega) (by omega)]
       exact ⟨⟨rfl,by omega,by omega,AHeap.le_trans hG hG2,hG2.2 _ _ ho,yes ⟨hs,fun _=>of_decide_eq_false hb⟩⟩,by simp;omega⟩
     ·have:=of_decide_eq_false ht
      unfold F68.B3
      rw [wrap_id (by omega) (by omega)]
      exact ⟨⟨rfl,by omega,by omega,hG,ho,yes ⟨hs,fun h=>by omega⟩⟩,by simp;omega⟩
   ·have hge:¬ x3<es.length:=of_decide_eq_false hb
    unfold F68.B1
    have k:=k _ hG
    rw [decide_eq_true (⟨hd,fun e he=>by
     obtain ⟨i,hi,rfl⟩:=List.getElem_of_mem he
     have h1:=(hp i (by omega)).1
     have h2:=(hd.ends _ (List.getElem_mem hi)).2.2.2.2
     rw [getD_of hi] at h1;omega,fun i hi=>by have:=(hp (i+1) (by omega)).2 (by omega);simpa using this,hc⟩:IsG n es)] at k
    exact k
end Go.Proofs
namespace Go.Proofs
open Go.Abs

variable {H:AHeap} {v u:Value} {l m:List Int} {es fs:List (Int × Int)} {K:Value→AHeap→Prop}

theorem LE_set (l:List (Int × Int)) {n:Nat} (x:Int × Int) (h:n<l.length):(LE l).take (n*2)++[.int .i64 x.1,.int .i64 x.2]++(LE l).drop (n*2+2)=LE (l.set n x):=by
 induction l generalizing n with
 | nil=>simp at h
 | cons y l ih=>
  cases n with
  | zero=>simp [LE_cons]
  | succ n=>
   rw [List.set_cons_succ,LE_cons,LE_cons,← ih (by simpa using h),show (n+1)*2=n*2+2 by omega]
   simp
theorem ints_one {H:AHeap} {v:Value} {l:List Int} (h:Ints H v l):v.oneCell'=true:=by
 rcases h with ⟨rfl,_⟩|⟨a,c,rfl,_⟩ <;> rfl
end Go.Proofs
namespace Go.Proofs
open Go.Abs

variable {H:AHeap} {v u:Value} {l m:List Int} {es fs:List (Int × Int)} {K:Value→AHeap→Prop}

end Go.Proofs
namespace Go.Proofs
open Go.Abs

def setN (l:List Int):Nat:=l.foldl (fun s i=>s|||2^i.toNat) 0
def bitsTo (s i:Nat):List Int:=((List.range i).filter (fun j=>s.testBit j)).map Int.ofNat
def bitsL (s:Nat):List Int:=bitsTo s 64
theorem u64_nat {x:Nat} (h:x<2^64):IntKind.u64.wrap ((x:Nat):Int)=x:=by
 rw [IntKind.wrap_u64];omega
theorem bv_nat (s:Nat):BitVec.ofInt 64 (s:Int)=BitVec.ofNat 64 s:=by
 simp
theorem or_lt {s t:Nat} (h:s<2^64) (g:t<2^64):s|||t<2^64:=Nat.or_lt_two_pow h g
theorem bits_or {s t:Nat} (h:s<2^64) (g:t<2^64):IntKind.u64.wrap ((BitVec.ofInt 64 (s:Int)|||BitVec.ofInt 64 (t:Int)).toNat:Int)=((s|||t:Nat):Int):=by
 rw [bv_nat,bv_nat,BitVec.toNat_or,BitVec.toNat_ofNat,BitVec.toNat_ofNat,Nat.mod_eq_of_lt h,Nat.mod_eq_of_lt g,u64_nat (or_lt h g)]
theorem bits_xor {s t:Nat} (h:s<2^64) (g:t<2^64):IntKind.u64.wrap ((BitVec.ofInt 64 (s:Int) ^^^ BitVec.ofInt 64 (t:Int)).toNat:Int)=((s ^^^ t:Nat):Int):=by
 rw [bv_nat,bv_nat,BitVec.toNat_xor,BitVec.toNat_ofNat,BitVec.toNat_ofNat,Nat.mod_eq_of_lt h,Nat.mod_eq_of_lt g,u64_nat (Nat.xor_lt_two_pow h g)]
theorem bits_and {s t:Nat} (h:s<2^64) (g:t<2^64):IntKind.u64.wrap ((BitVec.ofInt 64 (s:Int)&&&BitVec.ofInt 64 (t:Int)).toNat:Int)=((s&&&t:Nat):Int):=by
 have:s&&&t<2^64:=Nat.lt_of_le_of_lt Nat.and_le_left h
 rw [bv_nat,bv_nat,BitVec.toNat_and,BitVec.toNat_ofNat,BitVec.toNat_ofNat,Nat.mod_eq_of_lt h,Nat.mod_eq_of_lt g,u64_nat this]
theorem one_shl {i:Int} (h0:0≤i) (h:i<64):IntKind.u64.wrap (1*2^(min i.toNat 64))=((2^i.toNat:Nat):Int):=by
 rw [Int.one_mul,show min i.toNat 64=i.toNat by omega]
 have:(2:Nat)^i.toNat<2^64:=Nat.pow_lt_pow_right (by decide) (by omega)
 rw [← u64_nat this];simp
theorem shr_nat (s:Nat) (i:Nat):Int.fdiv (s:Int) (2^i)=((s/2^i:Nat):Int):=by
 rw [Int.fdiv_eq_ediv_of_nonneg _ (by exact Int.le_of_lt (Int.pow_pos (by decide)))]
 simp
theorem testBit_big {s:Nat} (h:s<2^64) {i:Nat} (hi:64≤i):s.testBit i=false:=
 Nat.testBit_lt_two_pow (Nat.lt_of_lt_of_le h (Nat.pow_le_pow_right (by decide) hi))
theorem has_bit {s:Nat} (h:s<2^64) {i:Int} (h0:0≤i):((IntKind.u64.wrap ((BitVec.ofInt 64 (Int.fdiv (s:Int) (2^(min i.toNat 64)))&&&BitVec.ofInt 64 1).toNat:Int):Int)==1)=s.testBit i.toNat:=by
 have hd:s/2^(min i.toNat 64)<2^64:=Nat.lt_of_le_of_lt (Nat.div_le_self _ _) h
 rw [shr_nat,show (1:Int)=((1:Nat):Int) from rfl,bits_and hd (by decide),Nat.and_one_is_mod]
 by_cases hi:i.toNat<64
 ·rw [show min i.toNat 64=i.toNat by omega,Nat.testBit_eq_decide_div_mod_eq]
  have:s/2^i.toNat%2=0∨s/2^i.toNat%2=1:=by omega
  rcases this with e|e <;> simp [e]
 ·rw [testBit_big h (by omega),show min i.toNat 64=64 by omega,Nat.div_eq_of_lt h];rfl
theorem setN_foldl_lt:∀ (l:List Int) (s:Nat),(∀ x∈l,x<64)→s<2^64→l.foldl (fun s i=>s|||2^i.toNat) s<2^64
 | [],s,_,h=>h
 | x::l,s,hx,h=>setN_foldl_lt l _ (fun y hy=>hx y (by simp [hy])) (or_lt h (Nat.pow_lt_pow_right (by decide) (by have:=hx x (by simp);omega)))
theorem setN_lt {l:List Int} (h:∀ x∈l,x<64):setN l<2^64:=setN_foldl_lt l 0 h (by decide)
theorem setN_take {l:List Int} {i:Nat} (h:i<l.length):setN (l.take (i+1))=setN (l.take i)|||2^(l[i]).toNat:=by
 unfold setN;rw [List.take_succ_eq_append_getElem h,List.foldl_append];rfl
theorem setN_foldl_bit:∀ (l:List Int) (s i:Nat),(∀ x∈l,0≤x)→((l.foldl (fun s i=>s|||2^i.toNat) s).testBit i=true↔s.testBit i=true∨(i:Int)∈l)
 | [],s,i,_=>by simp
 | x::l,s,i,h=>by
  rw [List.foldl_cons,setN_foldl_bit l _ i fun y hy=>h y (by simp [hy]),Nat.testBit_or,Nat.testBit_two_pow]
  have:=h x (by simp)
  simp only [Bool.or_eq_true,decide_eq_true_eq,List.mem_cons]
  constructor
  ·rintro ((h|h)|h)
   ·exact .inl h
   ·exact .inr (.inl (by omega))
   ·exact .inr (.inr h)
  ·rintro (h|h|h)
   ·exact .inl (.inl h)
   ·exact .inl (.inr (by omega))
   ·exact .inr h
theorem setN_bit {l:List Int} (h:∀ x∈l,0≤x) (i:Nat):(setN l).testBit i=decide ((i:Int)∈l):=by
 rw [Bool.eq_iff_iff,setN,setN_foldl_bit l 0 i h];simp
theorem bitsTo_succ (s i:Nat):bitsTo s (i+1)=bitsTo s i++(if s.testBit i then [(i:Int)] else []):=by
 unfold bitsTo
 rw [List.range_succ,List.filter_append,List.map_append]
 congr 1
 by_cases h:s.testBit i <;> simp [h]
theorem bitsTo_end {s i:Nat} (h:s/2^i=0):∀ k,bitsTo s (i+k)=bitsTo s i
 | 0=>rfl
 | k+1=>by
  rw [← Nat.add_assoc,bitsTo_succ,bitsTo_end h k]
  have hs:s<2^i:=by
   have:=Nat.div_add_mod s (2^i);rw [h] at this
   have:=Nat.mod_lt s (Nat.two_pow_pos i);omega
  have:s.testBit (i+k)=false:=Nat.testBit_lt_two_pow (Nat.lt_of_lt_of_le hs (Nat.pow_le_pow_right (by decide) (by omega)))
  simp [this]
theorem bitsTo_length (s i:Nat):(bitsTo s i).length≤i:=by
 unfold bitsTo;rw [List.length_map]
 exact Nat.le_trans (List.length_filter_le _ _) (by simp)
theorem IsS.range {l:List Int} {n:Int} (h:IsS l n):∀ x∈l,0≤x∧x<n:=by
 intro x hx
 obtain ⟨i,hi,rfl⟩:=List.getElem_of_mem hx
 have:=h i hi
 rw [getD_of hi] at this;omega
end Go.Proofs
namespace Go.Proofs
open Go.Abs

variable {H:AHeap} {v u f:Value} {l m:List Int} {es fs:List (Int × Int)} {K:Value→AHeap→Prop}

noncomputable def tiInt:TI:=(T0 2).getD ⟨.bool,0,0,undef⟩
theorem T0_int:T0 2=some tiInt∧tiInt.size=1∧tiInt.bytes=8∧tiInt.fine=true:=⟨by kernel_rfl,by kernel_rfl,by kernel_rfl,by kernel_rfl⟩
theorem push_int {H0:AHeap} {x:Int} (hF:Fresh H0.length H v 2 1 (LI l)) (h0:H0.le H) (hs:l.length<4294967296)
 (k:∀ v' G,H0.le G→Fresh H0.length G v' 2 1 (LI (l++[x]))→(∀ b o,H[b]?=some (some o)→(∀ c n,v≠.slice (some ⟨b,c,none⟩) n (n+1))→G[b]?=some (some o))→K v' G) :
 newK H [Value.int .i64 x] 2 (fun b1 H2=>apK T0 2 H2 v (Value.slice (some ⟨b1,0,none⟩) 1 (1+1)) K):=by
 refine newK_f rfl fun H2 l2 n2 o2=>?_
 obtain ⟨t1,t2,t3,t4⟩:=T0_int
 have hF2:=hF.le l2
 rw [← t2] at hF2
 refine Fresh.push (n:=1) (ys:=[.int .i64 x]) t1 (by omega) (by omega) t4 hF2 (AHeap.le_trans h0 l2) ?_ (by decide) (by simp;omega) ?_
 ·rw [t2];exact cellsAt_row o2 (by simp)
 ·intro v' G hG hf hk
  rw [t2] at hf
  exact k v' G hG (by simpa using hf) fun b o hb hne=>hk b o (l2.2 _ _ hb) hne
theorem setOf_ok (h:Ints H v l) (hl:l.length≤4611686018427387904) (hr:∀ x∈l,0≤x∧x<64) (k:K (.int .u64 (setN l:Nat)) H):AC Tryz.prog T0 103 [v] H K:=by
 apply F103.ac
 unfold F103.B9 F103.B8 F103.B7
 refine h.len ?_
 unfold F103.L2
 refine ⟨fun x3 x6 x7 x8 G=>x3=(setN (l.take x8.toNat):Nat)∧x6=v∧x7=l.length∧0≤x8∧x8≤l.length∧G=H,fun _ _ _ x8 _=>l.length-x8.toNat,⟨rfl,rfl,rfl,by omega,by omega,rfl⟩,?_⟩
 rintro x3 x6 x7 x8 G ⟨rfl,rfl,rfl,h0,h1,rfl⟩
 unfold F103.B6
 refine pif_cases (fun hb=>?_) fun hb=>?_
 ·have hlt:x8<l.length:=of_decide_eq_true hb
  obtain ⟨i,rfl⟩:∃ i:Nat,x8=i:=⟨x8.toNat,by omega⟩
  have hi:i<l.length:=by omega
  unfold F103.B5
  refine h.rd h0 hlt ?_
  simp only [Int.toNat_natCast,getD_of hi]
  have hx:=hr l[i] (List.getElem_mem hi)
  unfold F103.B4
  refine ⟨hx.1,?_⟩
  unfold F103.B3
  have hp:2^(l[i]).toNat<2^64:=Nat.pow_lt_pow_right (by decide) (by omega)
  rw [wrap_id (x:=(i:Int)+1) (by omega) (by omega),one_shl hx.1 hx.2,bits_or (setN_lt fun x hx=>(hr x (List.mem_of_mem_take hx)).2) hp]
  refine ⟨⟨?_,rfl,rfl,by omega,by omega,rfl⟩,by simp;omega⟩
  rw [show ((i:Int)+1).toNat=i+1 by omega,setN_take hi]
 ·have hge:¬ x8<l.length:=of_decide_eq_false hb
  have:x8=l.length:=by omega
  subst this
  unfold F103.B1
  simpa using k
theorem has_ok {s:Nat} {i:Int} (hs:s<2^64) (h0:0≤i) (k:K (.bool (s.testBit i.toNat)) H):AC Tryz.prog T0 144 [.int .u64 (s:Nat),.int .i64 i] H K:=by
 apply F144.ac
 unfold F144.B2 F144.B1
 refine ⟨h0,?_⟩
 rw [has_bit hs h0];exact k
theorem list_ok {s:Nat} (hs:s<2^64) (k:∀ v' G,H.le G→Fresh H.length G v' 2 1 (LI (bitsL s))→K v' G):AC Tryz.prog T0 80 [.int .u64 (s:Nat)] H K:=by
 apply F80.ac
 unfold F80.B9 F80.B8 F80.B7 F80.L2
 refine ⟨fun x0 x3 x4 G=>x0=(s:Nat)∧0≤x4∧x4≤64∧H.le G∧Fresh H.length G x3 2 1 (LI (bitsTo s x4.toNat)),fun _ _ x4 _=>64-x4.toNat,⟨rfl,by omega,by omega,AHeap.le_refl _,.inl ⟨rfl,.inl rfl⟩⟩,?_⟩
 rintro x0 x3 x4 G ⟨rfl,h0,h1,hG,hF⟩
 obtain ⟨i,rfl⟩:∃ i:Nat,x4=i:=⟨x4.toNat,by omega⟩
 simp only [Int.toNat_natCast] at hF
 unfold F80.B6
 refine ⟨h0,?_⟩
 rw [shr_nat,show min (Int.toNat (i:Int)) 64=i by simp;omega]
 refine pif_cases (fun hb=>?_) fun hb=>?_
 ·have hi:i<64:=by
   rcases Nat.lt_or_ge i 64 with h|h
   ·exact h
   ·have:i=64:=by omega
    subst this
    rw [Nat.div_eq_of_lt hs] at hb;simp at hb
  unfold F80.B5
  refine has_ok hs h0 (asB_mk (pif_cases (fun hb=>?_) fun hb=>?_))
  ·unfold F80.B4
   refine push_int hF hG (by have:=bitsTo_length s i;omega) fun v' G2 hG2 hF2 _=>?_
   unfold F80.B3
   rw [wrap_id (by omega) (by omega)]
   refine ⟨⟨rfl,by omega,by omega,hG2,?_⟩,by simp;omega⟩
   rw [show ((i:Int)+1).toNat=i+1 by omega,bitsTo_succ,if_pos (by simpa using hb)];exact hF2
  ·unfold F80.B3
   rw [wrap_id (by omega) (by omega)]
   refine ⟨⟨rfl,by omega,by omega,hG,?_⟩,by simp;omega⟩
   rw [show ((i:Int)+1).toNat=i+1 by omega,bitsTo_succ,if_neg (by simpa using hb),List.append_nil];exact hF
 ·have hz:s/2^i=0:=Int.natCast_eq_zero.1 (bne_eq_false_iff_eq.1 hb)
  unfold F80.B1
  refine k _ _ hG ?_
  have e:=bitsTo_end hz (64-i)
  rw [show i+(64-i)=64 by omega] at e
  unfold bitsL
  rw [e];exact hF
end Go.Proofs
namespace Go.Proofs
open Go.Abs

def on (e:Int × Int) (v:Int):Bool:=e.1==v||e.2==v
def atTo (es:List (Int × Int)) (v:Int) (k:Nat):List Int:=((List.range k).filter (fun i=>on (es.getD i (0,0)) v)).map Int.ofNat
def atL (es:List (Int × Int)) (v:Int):List Int:=atTo es v es.length
theorem atTo_succ (es:List (Int × Int)) (v:Int) (k:Nat):atTo es v (k+1)=atTo es v k++(if on (es.getD k (0,0)) v then [(k:Int)] else []):=by
 unfold atTo
 rw [List.range_succ,List.filter_append,List.map_append]
 congr 1
 cases h:on (es.getD k (0,0)) v <;> simp only [List.filter_cons,h,List.filter_nil] <;> rfl
theorem atTo_length (es:List (Int × Int)) (v:Int) (k:Nat):(atTo es v k).length≤k:=by
 unfold atTo;rw [List.length_map]
 exact Nat.le_trans (List.length_filter_le _ _) (by simp)
theorem mem_atL {es:List (Int × Int)} {v:Int} {x:Int}:x∈atL es v↔∃ i:Nat,x=i∧i<es.length∧on (es.getD i (0,0)) v=true:=by
 unfold atL atTo
 rw [List.mem_map]
 constructor
 ·rintro ⟨i,hi,rfl⟩
  rw [List.mem_filter,List.mem_range] at hi
  exact ⟨i,rfl,hi⟩
 ·rintro ⟨i,rfl,h1,h2⟩
  exact ⟨i,by rw [List.mem_filter,List.mem_range];exact ⟨h1,h2⟩,rfl⟩
theorem bump1_get (cs:List Int) (v:Int) {i:Nat} (hi:i<cs.length) (hv:0≤v):(bump1 cs v).getD i 0=cs.getD i 0+if v=i then 1 else 0:=by
 unfold bump1
 simp only [List.getD,List.getElem?_set]
 by_cases h:v=i
 ·subst h;simp [hi]
 ·have:v.toNat≠i:=by omega
  simp [this,h]
theorem counts_at {n:Int} {es:List (Int × Int)} (hd:IsEd n es) {v:Nat} (hv:(v:Int)<n):∀ k,k≤es.length→(counts n (es.take k)).getD v 0=((atTo es v k).length:Int):=by
 intro k
 induction k with
 | zero=>
  intro _
  have:v<n.toNat:=by omega
  simp [counts,atTo,this]
 | succ k ih=>
  intro hk
  have hk':k<es.length:=by omega
  obtain ⟨e1,e2,e3,e4,e5⟩:=hd.ends es[k] (List.getElem_mem hk')
  have hl:v<(counts n (es.take k)).length:=by rw [counts_length];omega
  rw [counts_take n es hk',bump,bump1_get _ _ (by rw [bump1_length];exact hl) e3,bump1_get _ _ hl e1,ih (by omega),atTo_succ,List.length_append,getD_of hk']
  unfold on
  by_cases h1:es[k].1=v
  ·have h2:es[k].2≠v:=by omega
   simp [h1,h2]
  ·by_cases h2:es[k].2=v <;> simp [h1,h2]
theorem IsG.three {n:Int} {es:List (Int × Int)} (hg:IsG n es) {v:Int} (h0:0≤v) (h1:v<n):(atL es v).length=3:=by
 obtain ⟨k,rfl⟩:∃ k:Nat,v=k:=⟨v.toNat,by omega⟩
 have:=counts_at hg.ed h1 es.length (Nat.le_refl _)
 rw [List.take_length] at this
 have hl:k<(counts n es).length:=by rw [counts_length];omega
 rw [getD_of hl,hg.cub _ (List.getElem_mem hl)] at this
 unfold atL;omega
def share (a b:Int × Int):Prop:=∃ v,on a v=true∧on b v=true
def ColTo (es:List (Int × Int)) (c:List Int) (k:Nat):Prop:=∀ j,j<k→∀ i,i<j→share (es.getD i (0,0)) (es.getD j (0,0))→c.getD i 0≠c.getD j 0
structure IsC (es:List (Int × Int)) (c:List Int):Prop where
 len:c.length=es.length
 rng:∀ x∈c,0≤x∧x≤2
 col:ColTo es c es.length
noncomputable instance (es:List (Int × Int)) (c:List Int):Decidable (IsC es c):=Classical.propDecidable _
def ends (es:List (Int × Int)) (l:List Int):List Int:=l.flatMap fun i=>[(es.getD i.toNat (0,0)).1,(es.getD i.toNat (0,0)).2]
structure IsM (n:Int) (es:List (Int × Int)) (l:List Int):Prop where
 set:IsS l es.length
 nd:(ends es l).Nodup
 len:2*(l.length:Int)=n
noncomputable instance (n:Int) (es:List (Int × Int)) (l:List Int):Decidable (IsM n es l):=Classical.propDecidable _
theorem ends_length (es:List (Int × Int)):∀ (l:List Int),(ends es l).length=2*l.length
 | []=>rfl
 | x::l=>by have:=ends_length es l;simp [ends] at this ⊢;omega
theorem nodup_sub {l m:List Int} (h:l.Nodup) (hs:∀ x∈l,x∈m):l.length≤m.length:=by
 induction l generalizing m with
 | nil=>simp
 | cons a l ih=>
  rw [List.nodup_cons] at h
  have ha:=hs a (by simp)
  have:=ih (m:=m.erase a) h.2 fun x hx=>by
   rw [List.mem_erase_of_ne (by rintro rfl;exact h.1 hx)];exact hs x (by simp [hx])
  rw [List.length_erase_of_mem ha] at this
  have:=List.length_pos_of_mem ha
  simp;omega
def upto (n:Nat):List Int:=(List.range n).map Int.ofNat
end Go.Proofs
namespace Go.Proofs
open Go.Abs

variable {H:AHeap} {v u f:Value} {l m c:List Int} {es fs:List (Int × Int)} {K:Value→AHeap→Prop}

theorem l01At_ok {n x:Int} (h:Edges H v es) (hl:es.length≤1048576) (k:∀ v' G,H.le G→Fresh H.length G v' 2 1 (LI (atL es x))→K v' G):AC Tryz.prog T0 132 [.agg ⟨[.int .i64 n,v]⟩,.int .i64 x] H K:=by
 apply F132.ac
 unfold F132.B9
 refine newK_f (all_iv (edges_one' h)) fun H1 l1 n1 o1=>?_
 unfold F132.B8
 refine newK_f rfl fun H2 l2 n2 o2=>?_
 unfold F132.B7 F132.L2
 refine ⟨fun x1 x2 x5 x6 G=>x1=x∧x2=H.length∧0≤x6∧x6≤es.length∧H1.le G∧Fresh H1.length G x5 2 1 (LI (atTo es x x6.toNat)),fun _ _ _ x6 _=>es.length-x6.toNat,⟨rfl,rfl,by omega,by omega,l2,.inr ⟨_,0,Nat.le_refl _,rfl,o2,rfl⟩⟩,?_⟩
 rintro x1 x2 x5 x6 G ⟨rfl,rfl,h0,h1,hG,hF⟩
 have oG:=hG.2 _ _ o1
 have lG:=AHeap.le_trans l1 hG
 unfold F132.B6
 refine ld1_own oG rfl ((h.le lG).len (pif_cases (fun hb=>?_) fun hb=>?_))
 ·have hlt:x6<es.length:=of_decide_eq_true hb
  obtain ⟨i,rfl⟩:∃ i:Nat,x6=i:=⟨x6.toNat,by omega⟩
  simp only [Int.toNat_natCast] at hF
  have yes:on (es.getD i (0,0)) x1=true→∀ N:Int→Nat→Value→Int→AHeap→Prop,(∀ x5' G',H1.le G'→Fresh H1.length G' x5' 2 1 (LI (atTo es x1 (i+1)))→N x1 H.length x5' ((i:Int)+1) G')→F132.B4 K N x1 H.length x5 i G:=by
   intro ho N hN
   unfold F132.B4
   refine push_int hF hG (by have:=atTo_length es x1 i;omega) fun v' G2 hG2 hF2 _=>?_
   unfold F132.B3
   rw [wrap_id (by omega) (by omega)]
   exact hN _ _ hG2 (by rw [atTo_succ,if_pos ho];exact hF2)
  have fin:∀ x5' G',H1.le G'→Fresh H1.length G' x5' 2 1 (LI (atTo es x1 (i+1)))→(x1=x1∧H.length=H.length∧0≤(i:Int)+1∧(i:Int)+1≤es.length∧H1.le G'∧Fresh H1.length G' x5' 2 1 (LI (atTo es x1 ((i:Int)+1).toNat)))∧es.length-((i:Int)+1).toNat<es.length-(i:Int).toNat:=
   fun x5' G' a b=>⟨⟨rfl,rfl,by omega,by omega,a,by rw [show ((i:Int)+1).toNat=i+1 by omega];exact b⟩,by omega⟩
  unfold F132.B5
  obtain ⟨b,o,hk,c1,c2⟩:=(h.le lG).idx h0 hlt
  simp only [Int.toNat_natCast] at c1 c2
  refine ld1_own oG rfl (hk _ (ldI_mk c1 (pif_cases (fun hs=>?_) fun hs=>?_)))
  ·exact yes (by unfold on;rw [hs];rfl) _ fin
  ·refine ld1_own oG rfl (hk _ (ldI_mk c2 (pif_cases (fun ht=>?_) fun ht=>?_)))
   ·exact yes (by unfold on;rw [hs,ht];rfl) _ fin
   ·unfold F132.B3
    rw [wrap_id (by omega) (by omega)]
    exact fin _ _ hG (by rw [atTo_succ,if_neg (by unfold on;rw [hs,ht];decide),List.append_nil];exact hF)
 ·have hge:¬ x6<es.length:=of_decide_eq_false hb
  have:x6=es.length:=by omega
  subst this
  unfold F132.B1
  exact k _ _ lG (hF.less l1.1)
def en (e:Int × Int) (k:Nat):Int:=if k=0 then e.1 else e.2
def Fits (es:List (Int × Int)) (c:List Int) (e:Nat) (x:Int):Prop:=∀ i,i<e→share (es.getD i (0,0)) (es.getD e (0,0))→c.getD i 0≠x
noncomputable instance (es:List (Int × Int)) (c:List Int) (e:Nat) (x:Int):Decidable (Fits es c e x):=Classical.propDecidable _
theorem on_en {e:Int × Int} {k:Nat}:on e (en e k)=true:=by
 unfold on en;split <;> simp
theorem on_cases {e:Int × Int} {v:Int} (h:on e v=true):v=en e 0∨v=en e 1:=by
 unfold on at h;unfold en
 simp only [Bool.or_eq_true,beq_iff_eq] at h
 rcases h with h|h
 ·left;simp [h]
 ·right;simp [h]
theorem cell_en {H:AHeap} {b o k:Nat} {e:Int × Int} (h1:H.cell b o=some (.int .i64 e.1)) (h2:H.cell b (o+1)=some (.int .i64 e.2)) (hk:k<2):H.cell b (o+Int.toNat (k:Int)*1)=some (.int .i64 (en e k)):=by
 rcases (by omega:k=0∨k=1) with rfl|rfl
 ·simpa [en] using h1
 ·simpa [en] using h2
theorem l02Fits2_ok {n x:Int} {e:Nat} (h:Edges H v es) (hl:es.length≤1048576) (hg:IsG n es) (hc:Ints H u c) (hcl:e≤c.length) (he:e<es.length) (k:∀ G,H.le G→K (.bool (decide (Fits es c e x))) G) :
 AC Tryz.prog T0 133 [.agg ⟨[.int .i64 n,v]⟩,u,.int .i64 e,.int .i64 x] H K:=by
 apply F133.ac
 unfold F133.B13
 refine newK_f (all_iv (edges_one' h)) fun H1 l1 n1 o1=>?_
 unfold F133.B12 F133.L2
 refine ⟨fun x1 x2 x3 x4 x9 G=>x1=u∧x2=e∧x3=x∧x4=H.length∧H1.le G∧∃ j:Nat,x9=j∧j≤2∧∀ j',j'<j→∀ i,i<e→on (es.getD i (0,0)) (en (es.getD e (0,0)) j')=true→c.getD i 0≠x,fun _ _ _ _ x9 _=>2-x9.toNat,⟨rfl,rfl,rfl,rfl,AHeap.le_refl _,0,rfl,by omega,fun j' hj=>absurd hj (by omega)⟩,?_⟩
 rintro x1 x2 x3 x4 x9 G ⟨rfl,rfl,rfl,rfl,hG,j,rfl,hj,hp⟩
 have oG:=hG.2 _ _ o1
 have lG:=AHeap.le_trans l1 hG
 obtain ⟨d1,d2,d3,d4,_⟩:=hg.ed.ends es[e] (List.getElem_mem he)
 unfold F133.B11
 refine pif_cases (fun hb=>?_) fun hb=>?_
 ·have hj2:j<2:=by have:=of_decide_eq_true hb;omega
  unfold F133.B10
  obtain ⟨b,o,hk,c1,c2⟩:=(h.le lG).idx (show (0:Int)≤(e:Int) by omega) (by omega)
  simp only [Int.toNat_natCast] at c1 c2
  refine ldI_own oG rfl (ld1_own oG rfl (ld1_own oG rfl (hk _ (bndK_iff.2 ⟨by omega,by omega,ldI_mk (cell_en c1 c2 hj2) (l01At_ok (h.le lG) hl fun w G2 hG2 hF=>?_)⟩))))
  have hv:0≤en (es.getD e (0,0)) j∧en (es.getD e (0,0)) j<n:=by
   rw [getD_of he];unfold en;split <;> omega
  have h3:=hg.three hv.1 hv.2
  have lG2:=AHeap.le_trans lG hG2
  unfold F133.B9 F133.L4
  refine ⟨fun y1 y2 y3 y4 y9 y10 y11 G'=>y1=x1∧y2=e∧y3=x3∧y4=H.length∧y9=j∧y10=w∧G'=G2∧0≤y11∧y11≤3∧∀ t:Nat,(t:Int)<y11→(atL es (en (es.getD e (0,0)) j)).getD t 0<e→c.getD ((atL es (en (es.getD e (0,0)) j)).getD t 0).toNat 0≠x3,fun _ _ _ _ _ _ y11 _=>3-y11.toNat,⟨rfl,rfl,rfl,rfl,rfl,rfl,rfl,by omega,by omega,fun t ht=>absurd ht (by omega)⟩,?_⟩
  rintro y1 y2 y3 y4 y9 y10 y11 G' ⟨rfl,rfl,rfl,rfl,rfl,rfl,rfl,g0,g1,hq⟩
  unfold F133.B8
  refine pif_cases (fun hb=>?_) fun hb=>?_
  ·have ht3:y11<3:=of_decide_eq_true hb
   obtain ⟨t,rfl⟩:∃ t:Nat,y11=t:=⟨y11.toNat,by omega⟩
   have htl:t<(atL es (en (es.getD e (0,0)) j)).length:=by omega
   unfold F133.B7
   have fin:((atL es (en (es.getD e (0,0)) j)).getD t 0<e→c.getD ((atL es (en (es.getD e (0,0)) j)).getD t 0).toNat 0≠y3)→∀ t':Nat,(t':Int)<(t:Int)+1→(atL es (en (es.getD e (0,0)) j)).getD t' 0<e→c.getD ((atL es (en (es.getD e (0,0)) j)).getD t' 0).toNat 0≠y3:=by
    intro hy t' ht'
    by_cases he:t'=t
    ·subst he;exact hy
    ·exact hq t' (by omega)
   obtain ⟨i,hi1,hi2,hi3⟩:=mem_atL.1 (List.getElem_mem htl)
   rw [← getD_of (d:=0) htl] at hi1
   have rd:∀ K:Int→Prop,K ((atL es (en (es.getD e (0,0)) j)).getD t 0)→idxK y10 t 1 (fun b o=>ldI .i64 G' b o K):=fun K k=>by
    have:=hF.ints.rd (i:=(t:Int)) g0 (by omega) (K:=K)
    simp only [Int.toNat_natCast] at this
    exact this k
   refine rd _ (pif_cases (fun hs=>?_) fun hs=>?_)
   ·have hs:=of_decide_eq_true hs
    refine rd _ ((hc.le lG2).rd (by omega) (by omega) (pif_cases (fun hu=>?_) fun hu=>?_))
    ·unfold F133.B6
     have k:=k _ lG2
     rw [decide_eq_false (fun hf:Fits es c e y3=>by
      rw [hi1] at hu hs
      exact hf i (by omega) ⟨_,hi3,on_en⟩ (by simpa using hu))] at k
     exact k
    ·unfold F133.B5
     rw [wrap_id (by omega) (by omega)]
     exact ⟨⟨rfl,rfl,rfl,rfl,rfl,rfl,rfl,by omega,by omega,fin fun _=>by simpa using hu⟩,by simp;omega⟩
   ·have hs:=of_decide_eq_false hs
    unfold F133.B5
    rw [wrap_id (by omega) (by omega)]
    exact ⟨⟨rfl,rfl,rfl,rfl,rfl,rfl,rfl,by omega,by omega,fin fun h=>absurd h hs⟩,by simp;omega⟩
  ·have hge:¬ y11<3:=of_decide_eq_false hb
   unfold F133.B3
   rw [wrap_id (by omega) (by omega)]
   refine ⟨⟨rfl,rfl,rfl,rfl,AHeap.le_trans hG hG2,j+1,by omega,by omega,fun j' hj' i hi ho=>?_⟩,by simp;omega⟩
   by_cases he':j'=j
   ·subst he'
    have hm:(i:Int)∈atL es (en (es.getD e (0,0)) j'):=mem_atL.2 ⟨i,rfl,by omega,ho⟩
    obtain ⟨t,ht,hte⟩:=List.getElem_of_mem hm
    have:=hq t (by omega)
    rw [getD_of ht,hte] at this
    simpa using this (by omega)
   ·exact hp j' (by omega) i hi ho
 ·have hj2:j=2:=by have:=of_decide_eq_false hb;omega
  subst hj2
  unfold F133.B1
  have k:=k _ lG
  rw [decide_eq_true (show Fits es c e x3 from fun i hi ⟨w,hw1,hw2⟩=>by
   rcases on_cases hw2 with rfl|rfl
   ·exact hp 0 (by omega) i hi hw1
   ·exact hp 1 (by omega) i hi hw1)] at k
  exact k
end Go.Proofs
namespace Go.Proofs
open Go.Abs

variable {H:AHeap} {v u f:Value} {l m c:List Int} {es fs:List (Int × Int)} {K:Value→AHeap→Prop}

abbrev LU (s:List Nat):List Value:=s.map fun x=>Value.int .u64 (x:Nat)
abbrev LB (s:List Bool):List Value:=s.map Value.bool
theorem rep_u (n:Nat):(List.replicate n [Value.int .u64 0]).flatten=LU (List.replicate n 0):=by
 induction n with
 | zero=>rfl
 | succ n ih=>rw [List.replicate_succ,List.replicate_succ,List.flatten_cons,ih];rfl
theorem rep_b (n:Nat):(List.replicate n [Value.bool false]).flatten=LB (List.replicate n false):=by
 induction n with
 | zero=>rfl
 | succ n ih=>rw [List.replicate_succ,List.replicate_succ,List.flatten_cons,ih];rfl
theorem own_idx {b n:Nat} {x:Int} {K:Nat→Nat→Prop} (h0:0≤x) (h1:x<n) (k:K b x.toNat):idxK (.slice (some ⟨b,0,none⟩) n (n+1)) x 1 K:=⟨h0,h1,by simpa using k⟩
end Go.Proofs
namespace Go.Proofs
open Go.Abs

inductive Rch (adj:Nat→Nat→Prop) (e:Nat):Nat→Prop
 | refl:Rch adj e e
 | step {x y:Nat}:Rch adj e x→adj x y→Rch adj e y
theorem Rch.trans {adj:Nat→Nat→Prop} {a b c:Nat} (h:Rch adj a b) (k:Rch adj b c):Rch adj a c:=by
 induction k with
 | refl=>exact h
 | step _ h2 ih=>exact .step ih h2
theorem Rch.symm {adj:Nat→Nat→Prop} (hs:∀ x y,adj x y→adj y x) {a b:Nat} (h:Rch adj a b):Rch adj b a:=by
 induction h with
 | refl=>exact .refl
 | step _ h2 ih=>exact (Rch.step .refl (hs _ _ h2)).trans ih
theorem Rch.keep {adj:Nat→Nat→Prop} {P:Nat→Prop} (hs:∀ x y,adj x y→P x→P y) {a b:Nat} (h:Rch adj a b) (ha:P a):P b:=by
 induction h with
 | refl=>exact ha
 | step _ h2 ih=>exact hs _ _ h2 ih
noncomputable instance (adj:Nat→Nat→Prop) (a b:Nat):Decidable (Rch adj a b):=Classical.propDecidable _
def insB (S:Nat→Bool) (y:Nat):Nat→Bool:=fun j=>S j||decide (y=j)
theorem insB_self (S:Nat→Bool) (y:Nat):insB S y y=true:=by simp [insB]
theorem insB_of {S:Nat→Bool} {y x:Nat} (h:S x=true):insB S y x=true:=by simp [insB,h]
theorem insB_ne {S:Nat→Bool} {y x:Nat} (h:insB S y x=true) (hne:x≠y):S x=true:=by
 simp only [insB,Bool.or_eq_true,decide_eq_true_eq] at h
 exact h.elim id fun h=>absurd h.symm hne
def unseen (S:Nat→Bool):Nat→Nat
 | 0=>0
 | n+1=>unseen S n+if S n then 0 else 1
theorem unseen_congr {S S':Nat→Bool}:∀ {n:Nat},(∀ i,i<n→S i=S' i)→unseen S n=unseen S' n
 | 0,_=>rfl
 | n+1,h=>by rw [unseen,unseen,unseen_congr fun i hi=>h i (by omega),h n (by omega)]
theorem unseen_ins {S:Nat→Bool} {y:Nat}:∀ {n:Nat},y<n→S y=false→unseen (insB S y) n+1=unseen S n
 | n+1,h,hs=>by
  rw [unseen,unseen]
  by_cases e:y=n
  ·subst e
   rw [unseen_congr (S':=S) fun i hi=>by simp [insB];intro h;omega,insB_self,hs];simp
  ·have:insB S y n=S n:=by simp [insB,e]
   rw [this,← unseen_ins (n:=n) (by omega) hs];omega
theorem unseen_le (S:Nat→Bool):∀ n,unseen S n≤n
 | 0=>Nat.le_refl _
 | n+1=>by have:=unseen_le S n;rw [unseen];split <;> omega
structure Ex (adj:Nat→Nat→Prop) (e:Nat) (S:Nat→Bool) (Q:List Nat):Prop where
 start:S e=true
 q:∀ x∈Q,S x=true
 rch:∀ x,S x=true→Rch adj e x
 done:∀ x,S x=true→x∉Q→∀ y,adj x y→S y=true
theorem Ex.init {adj:Nat→Nat→Prop} {e:Nat} {S:Nat→Bool} (h:∀ x,S x=true↔x=e):Ex adj e S [e]:=
 ⟨(h e).2 rfl,fun x hx=>by rw [List.mem_singleton] at hx;exact (h x).2 hx,fun x hx=>by rw [(h x).1 hx];exact .refl,fun x hx hn=>absurd ((h x).1 hx) (by simpa using hn)⟩
theorem Ex.push {adj:Nat→Nat→Prop} {e:Nat} {S:Nat→Bool} {Q:List Nat} (h:Ex adj e S Q) {x y:Nat} (hx:S x=true) (ha:adj x y):Ex adj e (insB S y) (Q++[y]):=by
 refine ⟨insB_of h.start,fun z hz=>?_,fun z hz=>?_,fun z hz hn w hw=>?_⟩
 ·rcases List.mem_append.1 hz with hz|hz
  ·exact insB_of (h.q z hz)
  ·rw [List.mem_singleton] at hz;rw [hz];exact insB_self _ _
 ·by_cases e':z=y
  ·rw [e'];exact .step (h.rch x hx) ha
  ·exact h.rch z (insB_ne hz e')
 ·rw [List.mem_append,List.mem_singleton] at hn
  exact insB_of (h.done z (insB_ne hz fun h=>hn (.inr h)) (fun h=>hn (.inl h)) w hw)
theorem Ex.pop {adj:Nat→Nat→Prop} {e:Nat} {S:Nat→Bool} {x:Nat} {Q:List Nat} (h:Ex adj e S (x::Q)) (ha:∀ y,adj x y→S y=true):Ex adj e S Q:=by
 refine ⟨h.start,fun z hz=>h.q z (by simp [hz]),h.rch,fun z hz hn w hw=>?_⟩
 by_cases e':z=x
 ·rw [e'] at hw;exact ha w hw
 ·exact h.done z hz (by simp [e',hn]) w hw
theorem Ex.fin {adj:Nat→Nat→Prop} {e:Nat} {S:Nat→Bool} (h:Ex adj e S []) (x:Nat):S x=true↔Rch adj e x:=by
 refine ⟨h.rch x,fun hr=>hr.keep (P:=fun x=>S x=true) (fun a b hab ha=>?_) h.start⟩
 exact h.done a ha (by simp) b hab
end Go.Proofs
namespace Go.Proofs
open Go.Abs

theorem and_split {a b c d:Nat} (ha:a<256) (hc:c<256):(a+256*b)&&&(c+256*d)=(a&&&c)+256*(b&&&d):=by
 have hac:a&&&c<2^8:=Nat.lt_of_le_of_lt Nat.and_le_left ha
 apply Nat.eq_of_testBit_eq
 intro i
 have e:∀ x y:Nat,x<2^8→(x+256*y).testBit i=if i<8 then x.testBit i else y.testBit (i-8):=fun x y hx=>by
  rw [Nat.add_comm,show (256:Nat)=2^8 from rfl,Nat.testBit_two_pow_mul_add _ hx]
 rw [Nat.testBit_and,e a b ha,e c d hc,e _ _ hac,Nat.testBit_and,Nat.testBit_and]
 split <;> rfl
def msk (c:Nat):Nat→Nat
 | 0=>0
 | n+1=>c+256*msk c n
theorem split256 (x:Nat):x=x%256+256*(x/256):=by omega
theorem and_msk {c x n:Nat} (hc:c<256):x&&&msk c (n+1)=(x%256&&&c)+256*(x/256&&&msk c n):=by
 conv=>lhs;rw [split256 x]
 exact and_split (Nat.mod_lt _ (by decide)) hc
theorem sh1:∀ a:Fin 256,∀ b:Fin 2,(a.val/2+128*b.val)&&&85=(a.val/2)&&&85:=by decide +kernel
theorem sh2:∀ a:Fin 256,∀ b:Fin 4,(a.val/4+64*b.val)&&&51=(a.val/4)&&&51:=by decide +kernel
theorem sh4:∀ a:Fin 69,∀ b:Fin 5,a.val%16≤4→(a.val/16+16*b.val+a.val)%256&&&15=(a.val/16+a.val)%256&&&15:=by decide +kernel
def stA (n x:Nat):Nat:=(x/2&&&msk 85 n)+(x&&&msk 85 n)
def stB (n x:Nat):Nat:=(x/4&&&msk 51 n)+(x&&&msk 51 n)
def stC (n x:Nat):Nat:=(x/16+x)&&&msk 15 n
def byA (c:Nat):Nat:=(c/2&&&85)+(c&&&85)
def byB (c:Nat):Nat:=(c/4&&&51)+(c&&&51)
def byC (c:Nat):Nat:=(c/16+c)%256&&&15
theorem byA_lt:∀ c:Fin 256,byA c.val<256:=by decide +kernel
theorem byB_lt:∀ c:Fin 256,byB (byA c.val)<69∧byB (byA c.val)%16≤4∧byB (byA c.val)/16≤4:=by decide +kernel
theorem stA_step (n x:Nat):stA (n+1) x=byA (x%256)+256*stA n (x/256):=by
 unfold stA byA
 rw [and_msk (by decide),and_msk (by decide)]
 have h1:x/2%256=x%256/2+128*(x/256%2):=by omega
 have h2:x/2/256=x/256/2:=by omega
 have h3:=sh1 ⟨x%256,by omega⟩ ⟨x/256%2,by omega⟩
 simp only at h3
 rw [h1,h2,h3];omega
theorem stB_step (n x:Nat):stB (n+1) x=byB (x%256)+256*stB n (x/256):=by
 unfold stB byB
 rw [and_msk (by decide),and_msk (by decide)]
 have h1:x/4%256=x%256/4+64*(x/256%4):=by omega
 have h2:x/4/256=x/256/4:=by omega
 have h3:=sh2 ⟨x%256,by omega⟩ ⟨x/256%4,by omega⟩
 simp only at h3
 rw [h1,h2,h3];omega
def byts (n x:Nat):Nat:=stB n (stA n x)
theorem byts_step (n x:Nat):byts (n+1) x=byB (byA (x%256))+256*byts n (x/256):=by
 unfold byts
 have hb:=byA_lt ⟨x%256,by omega⟩
 simp only at hb
 have e:=stA_step n x
 have h1:stA (n+1) x%256=byA (x%256):=by omega
 have h2:stA (n+1) x/256=stA n (x/256):=by omega
 rw [stB_step,h1,h2]
theorem byts_zero (x:Nat):byts 0 x=0:=by simp [byts,stB,stA,msk]
theorem byts_low (n x:Nat):byts n x%16≤4∧byts n x%256<69∧byts n x%256/16≤4:=by
 cases n with
 | zero=>rw [byts_zero];decide
 | succ n=>
  have h:=byB_lt ⟨x%256,by omega⟩
  simp only at h
  have:=byts_step n x
  omega
def pops (n x:Nat):Nat:=stC n (byts n x)
def pop1 (c:Nat):Nat:=byC (byB (byA c))
theorem pops_step (n x:Nat):pops (n+1) x=pop1 (x%256)+256*pops n (x/256):=by
 unfold pops stC pop1 byC
 have hb:=byB_lt ⟨x%256,by omega⟩
 simp only at hb
 have e:=byts_step n x
 have hl:=byts_low n (x/256)
 rw [and_msk (by decide),e]
 generalize byB (byA (x%256))=c at *
 generalize byts n (x/256)=d at *
 have h1:((c+256*d)/16+(c+256*d))%256=(c/16+16*(d%16)+c)%256:=by omega
 have h2:((c+256*d)/16+(c+256*d))/256=d/16+d:=by omega
 have h3:=sh4 ⟨c,by omega⟩ ⟨d%16,by omega⟩ (by simp only;omega)
 simp only at h3
 rw [h1,h2,h3]
theorem pop1_eq:∀ c:Fin 256,pop1 c.val=(bitsTo c.val 8).length:=by decide +kernel
theorem pop1_le:∀ c:Fin 256,pop1 c.val≤8:=by decide +kernel
def popc (s k:Nat):Nat:=(bitsTo s k).length
theorem popc_byte (s:Nat):∀ k,popc s (8+k)=popc (s%256) 8+popc (s/256) k
 | 0=>by
  unfold popc bitsTo
  rw [List.length_map,List.length_map,List.length_map,Nat.add_zero]
  rw [List.filter_congr (q:=fun j=>(s%256).testBit j) fun j hj=>by
   rw [List.mem_range] at hj
   rw [show (256:Nat)=2^8 from rfl,Nat.testBit_mod_two_pow];simp [hj]]
  simp
 | k+1=>by
  have ih:=popc_byte s k
  unfold popc at ih ⊢
  rw [← Nat.add_assoc,bitsTo_succ s (8+k),bitsTo_succ (s/256) k,List.length_append,List.length_append,ih]
  have:s.testBit (8+k)=(s/256).testBit k:=by
   rw [show (256:Nat)=2^8 from rfl,Nat.testBit_div_two_pow,Nat.add_comm]
  rw [this,Nat.add_assoc]
  split <;> rfl
theorem pop_fin {c d e0 e1 e2 e3 e4 e5 e6 e7:Nat} (q0:e0≤8) (q1:e1≤8) (q2:e2≤8) (q3:e3≤8) (q4:e4≤8) (q5:e5≤8) (q6:e6≤8) (q7:e7≤8)
 (hc:c=(e0+e1+e2+e3)+256*(e1+e2+e3+e4)+65536*(e2+e3+e4+e5)+16777216*(e3+e4+e5+e6)+4294967296*(e4+e5+e6+e7)+1099511627776*(e5+e6+e7)+281474976710656*(e6+e7)+72057594037927936*e7)
 (hd:d=c+c/4294967296):d%128=e0+(e1+(e2+(e3+(e4+(e5+(e6+e7)))))):=by
 obtain ⟨lo,hlo⟩:∃ lo,lo=(e0+e1+e2+e3)+256*(e1+e2+e3+e4)+65536*(e2+e3+e4+e5)+16777216*(e3+e4+e5+e6):=⟨_,rfl⟩
 obtain ⟨hi,hhi⟩:∃ hi,hi=(e4+e5+e6+e7)+256*(e5+e6+e7)+65536*(e6+e7)+16777216*e7:=⟨_,rfl⟩
 have h1:lo<4294967296:=by omega
 have h2:c=lo+4294967296*hi:=by omega
 clear hc
 have h3:c/4294967296=hi:=by omega
 have h4:d=lo+4294967296*hi+hi:=by omega
 clear hd h2 h3 h1
 have h5:d=(e0+(e1+(e2+(e3+(e4+(e5+(e6+e7)))))))+128*(2*(e1+e2+e3+e4)+512*(e2+e3+e4+e5)+131072*(e3+e4+e5+e6)+33554432*hi+2*(e5+e6+e7)+512*(e6+e7)+131072*e7):=by omega
 rw [h5,Nat.add_mul_mod_self_left]
 clear h4 h5 hlo hhi
 exact Nat.mod_eq_of_lt (by omega)
theorem pops_sum {x a b c d:Nat} (ha:a=pops 8 x) (hb:b=a+a/256) (hc:c=b+b/65536) (hd:d=c+c/4294967296):d%128=popc x 64:=by
 have st:∀ n y,∃ z,z=y/256∧pops (n+1) y=pop1 (y%256)+256*pops n z∧pop1 (y%256)≤8∧popc y (8+8*n)=pop1 (y%256)+popc z (8*n):=by
  intro n y
  refine ⟨_,rfl,pops_step n y,?_,?_⟩
  ·exact pop1_le ⟨y%256,by omega⟩
  ·rw [popc_byte,pop1_eq ⟨y%256,by omega⟩];rfl
 obtain ⟨x1,_,p0,q0,r0⟩:=st 7 x
 obtain ⟨x2,_,p1,q1,r1⟩:=st 6 x1
 obtain ⟨x3,_,p2,q2,r2⟩:=st 5 x2
 obtain ⟨x4,_,p3,q3,r3⟩:=st 4 x3
 obtain ⟨x5,_,p4,q4,r4⟩:=st 3 x4
 obtain ⟨x6,_,p5,q5,r5⟩:=st 2 x5
 obtain ⟨x7,_,p6,q6,r6⟩:=st 1 x6
 obtain ⟨x8,_,p7,q7,r7⟩:=st 0 x7
 have p8:pops 0 x8=0:=by simp [pops,stC,msk]
 have r8:popc x8 (8*0)=0:=rfl
 simp only [Nat.reduceMul,Nat.reduceAdd] at p0 p1 p2 p3 p4 p5 p6 p7 p8 r0 r1 r2 r3 r4 r5 r6 r7 r8
 generalize pop1 (x%256)=e0 at *
 generalize pop1 (x1%256)=e1 at *
 generalize pop1 (x2%256)=e2 at *
 generalize pop1 (x3%256)=e3 at *
 generalize pop1 (x4%256)=e4 at *
 generalize pop1 (x5%256)=e5 at *
 generalize pop1 (x6%256)=e6 at *
 generalize pop1 (x7%256)=e7 at *
 rw [r0,r1,r2,r3,r4,r5,r6,r7,r8]
 rw [p0,p1,p2,p3,p4,p5,p6,p7,p8] at ha
 have hb:b=(e0+e1)+256*(e1+e2)+65536*(e2+e3)+16777216*(e3+e4)+4294967296*(e4+e5)+1099511627776*(e5+e6)+281474976710656*(e6+e7)+72057594037927936*e7:=by omega
 clear ha
 have hc:c=(e0+e1+e2+e3)+256*(e1+e2+e3+e4)+65536*(e2+e3+e4+e5)+16777216*(e3+e4+e5+e6)+4294967296*(e4+e5+e6+e7)+1099511627776*(e5+e6+e7)+281474976710656*(e6+e7)+72057594037927936*e7:=by omega
 clear hb
 have:=pop_fin q0 q1 q2 q3 q4 q5 q6 q7 hc hd
 rw [this];simp only [Nat.add_assoc,Nat.add_zero]
theorem pops_le {x:Nat}:pops 8 x≤651061555542690056:=by
 have st:∀ n y,pops (n+1) y≤8+256*pops n (y/256):=fun n y=>by
  have:=pops_step n y;have:=pop1_le ⟨y%256,by omega⟩;simp only at this;omega
 have p8:∀ y,pops 0 y=0:=fun y=>by simp [pops,stC,msk]
 have h0:=st 7 x
 have h1:=st 6 (x/256)
 have h2:=st 5 (x/256/256)
 have h3:=st 4 (x/256/256/256)
 have h4:=st 3 (x/256/256/256/256)
 have h5:=st 2 (x/256/256/256/256/256)
 have h6:=st 1 (x/256/256/256/256/256/256)
 have h7:=st 0 (x/256/256/256/256/256/256/256)
 have h8:=p8 (x/256/256/256/256/256/256/256/256)
 simp only [Nat.reduceAdd] at h0 h1 h2 h3 h4 h5 h6 h7
 omega
theorem msk_a:msk 85 8=6148914691236517205:=rfl
theorem msk_b:msk 51 8=3689348814741910323:=rfl
theorem msk_c:msk 15 8=1085102592571150095:=rfl
end Go.Proofs
namespace Go.Proofs
open Go.Abs

def filtB (S:Nat→Bool) (k:Nat):List Int:=((List.range k).filter S).map Int.ofNat
theorem filtB_succ (S:Nat→Bool) (k:Nat):filtB S (k+1)=filtB S k++(if S k then [(k:Int)] else []):=by
 unfold filtB
 rw [List.range_succ,List.filter_append,List.map_append]
 congr 1
 cases h:S k <;> simp [h]
theorem filtB_length (S:Nat→Bool) (k:Nat):(filtB S k).length≤k:=by
 unfold filtB;rw [List.length_map]
 exact Nat.le_trans (List.length_filter_le _ _) (by simp)
theorem filtB_congr {S S':Nat→Bool} {k:Nat} (h:∀ i,i<k→S i=S' i):filtB S k=filtB S' k:=by
 unfold filtB
 rw [List.filter_congr fun i hi=>h i (List.mem_range.1 hi)]
theorem bits_lt {s n:Nat} (h:∀ j,s.testBit j=true→j<n):s<2^n:=by
 apply Nat.lt_pow_two_of_testBit
 intro i hi
 cases hb:s.testBit i with
 | false=>rfl
 | true=>have:=h i hb;omega
theorem bitsL_filt {s n:Nat} (hn:n≤64) (h:∀ j,s.testBit j=true→j<n):bitsL s=filtB (fun j=>s.testBit j) n:=by
 have e:=bitsTo_end (Nat.div_eq_of_lt (bits_lt h)) (64-n)
 rw [show n+(64-n)=64 by omega] at e
 exact e
theorem mem_filtB {S:Nat→Bool} {k:Nat} {x:Int}:x∈filtB S k↔∃ j:Nat,x=j∧j<k∧S j=true:=by
 unfold filtB
 rw [List.mem_map]
 constructor
 ·rintro ⟨j,hj,rfl⟩
  rw [List.mem_filter,List.mem_range] at hj
  exact ⟨j,rfl,hj⟩
 ·rintro ⟨j,rfl,h⟩
  exact ⟨j,by rw [List.mem_filter,List.mem_range];exact h,rfl⟩
def Asc (l:List Int):Prop:=l.Pairwise (· < ·)
theorem Asc.ext:∀ {l m:List Int},Asc l→Asc m→(∀ x,x∈l↔x∈m)→l=m
 | [],[],_,_,_=>rfl
 | [],b::m,_,_,h=>absurd ((h b).2 (by simp)) (by simp)
 | a::l,[],_,_,h=>absurd ((h a).1 (by simp)) (by simp)
 | a::l,b::m,hl,hm,h=>by
  unfold Asc at hl hm
  rw [List.pairwise_cons] at hl hm
  have hab:a=b:=by
   have h1:=(h a).1 (by simp)
   have h2:=(h b).2 (by simp)
   rcases List.mem_cons.1 h1 with rfl|h1
   ·rfl
   ·rcases List.mem_cons.1 h2 with h2|h2
    ·exact h2.symm
    ·have:=hl.1 b h2;have:=hm.1 a h1;omega
  subst hab
  rw [Asc.ext hl.2 hm.2 fun x=>?_]
  constructor
  ·intro hx
   rcases List.mem_cons.1 ((h x).1 (by simp [hx])) with rfl|hx'
   ·exact absurd (hl.1 x hx) (Int.lt_irrefl _)
   ·exact hx'
  ·intro hx
   rcases List.mem_cons.1 ((h x).2 (by simp [hx])) with rfl|hx'
   ·exact absurd (hm.1 x hx) (Int.lt_irrefl _)
   ·exact hx'
theorem filtB_asc (S:Nat→Bool) (k:Nat):Asc (filtB S k):=by
 unfold filtB Asc
 refine List.Pairwise.map _ (fun a b (h:a<b)=>Int.ofNat_lt.2 h) ?_
 exact List.Pairwise.filter _ List.pairwise_lt_range
theorem IsS.asc {l:List Int} {n:Int} (h:IsS l n):Asc l:=by
 have key:∀ i j,i<j→j<l.length→l.getD i 0<l.getD j 0:=by
  intro i j hij hj
  induction j with
  | zero=>omega
  | succ j ih=>
   have:=(h (j+1) hj).2.2 (by omega)
   rw [Nat.add_sub_cancel] at this
   by_cases e:i=j
   ·subst e;exact this
   ·have:=ih (by omega) (by omega);omega
 unfold Asc
 rw [List.pairwise_iff_getElem]
 intro i j hi hj hij
 have:=key i j hij hj
 rwa [getD_of hi,getD_of hj] at this
theorem asc_isS {l:List Int} {n:Int} (h:Asc l) (hr:∀ x∈l,0≤x∧x<n):IsS l n:=by
 intro i hi
 have:=hr _ (List.getElem_mem hi)
 rw [getD_of hi]
 refine ⟨this.1,by omega,fun h0=>?_⟩
 unfold Asc at h
 rw [List.pairwise_iff_getElem] at h
 rw [getD_of (show i-1<l.length by omega)]
 exact h _ _ _ _ (by omega)
def bitB (l:List Int) (j:Nat):Bool:=(setN l).testBit j
theorem bitB_mem {l:List Int} {n:Int} (h:IsS l n) (j:Nat):bitB l j=true↔(j:Int)∈l:=by
 unfold bitB
 rw [setN_bit fun x hx=>(h.range x hx).1];simp
theorem bitB_lt {l:List Int} {n:Nat} (h:IsS l n) {j:Nat} (hj:bitB l j=true):j<n:=by
 have:=h.range _ ((bitB_mem h j).1 hj);omega
theorem IsS.filt {l:List Int} {n:Nat} (h:IsS l n):l=filtB (bitB l) n:=by
 refine Asc.ext h.asc (filtB_asc _ _) fun x=>?_
 rw [mem_filtB]
 constructor
 ·intro hx
  have:=h.range x hx
  refine ⟨x.toNat,by omega,by omega,(bitB_mem h _).2 ?_⟩
  rwa [show ((x.toNat:Nat):Int)=x by omega]
 ·rintro ⟨j,rfl,_,hj⟩
  exact (bitB_mem h j).1 hj
def degB (es:List (Int × Int)) (p:Nat→Bool) (w:Int):Nat:=(filtB (fun j=>on (es.getD j (0,0)) w&&p j) es.length).length
end Go.Proofs
namespace Go.Proofs
open Go.Abs

def eAdj (es:List (Int × Int)) (p:Nat→Bool) (i j:Nat):Prop:=j<es.length∧p j=true∧share (es.getD i (0,0)) (es.getD j (0,0))
noncomputable def rchB (adj:Nat→Nat→Prop) (e:Nat) (j:Nat):Bool:=decide (Rch adj e j)
theorem rchB_iff {adj:Nat→Nat→Prop} {e j:Nat}:rchB adj e j=true↔Rch adj e j:=by unfold rchB;simp
theorem share_symm {a b:Int × Int} (h:share a b):share b a:=by
 obtain ⟨v,h1,h2⟩:=h;exact ⟨v,h2,h1⟩
section
variable {es:List (Int × Int)} {p:Nat→Bool} {l:List Int}
theorem eRch_in {i j:Nat} (h:Rch (eAdj es p) i j) (hi:i<es.length∧p i=true):j<es.length∧p j=true:=
 h.keep (P:=fun x=>x<es.length∧p x=true) (fun x y hxy _=>⟨hxy.1,hxy.2.1⟩) hi
theorem eRch_symm {i j:Nat} (h:Rch (eAdj es p) i j) (hi:i<es.length∧p i=true):Rch (eAdj es p) j i:=by
 have:∀ x,Rch (eAdj es p) i x→Rch (eAdj es p) x i∧(x<es.length∧p x=true):=by
  intro x hx
  induction hx with
  | refl=>exact ⟨.refl,hi⟩
  | step _ h2 ih=>exact ⟨(Rch.step .refl ⟨ih.2.1,ih.2.2,share_symm h2.2.2⟩).trans ih.1,h2.1,h2.2.1⟩
 exact (this j h).1
def cLead (es:List (Int × Int)) (p:Nat→Bool) (i:Nat):Prop:=∀ j,j<i→p j=true→¬ Rch (eAdj es p) j i
noncomputable def cLeadB (es:List (Int × Int)) (p:Nat→Bool) (i:Nat):Bool:=@decide (cLead es p i) (Classical.propDecidable _)
theorem cLeadB_iff {i:Nat}:cLeadB es p i=true↔cLead es p i:=by unfold cLeadB;simp
theorem lead_of {i:Nat} (hp:p i=true) (hn:¬ cLead es p i):∃ j,j<i∧p j=true∧cLead es p j∧Rch (eAdj es p) j i:=by
 induction i using Nat.strongRecOn with
 | _ i ih=>
  have:∃ j,j<i∧p j=true∧Rch (eAdj es p) j i:=by
   apply Classical.byContradiction
   intro h
   exact hn fun j h1 h2 h3=>h ⟨j,h1,h2,h3⟩
  obtain ⟨j,h1,h2,h3⟩:=this
  by_cases hl:cLead es p j
  ·exact ⟨j,h1,h2,hl,h3⟩
  ·obtain ⟨j',g1,g2,g3,g4⟩:=ih j h1 h2 hl
   exact ⟨j',by omega,g2,g3,g4.trans h3⟩
noncomputable def compL (es:List (Int × Int)) (p:Nat→Bool) (i:Nat):List Int:=filtB (rchB (eAdj es p) i) es.length
theorem asc_take {t:Nat} (ha:Asc l) (ht:t<l.length) (y:Int):y∈l.take t↔y∈l∧y<l[t]:=by
 unfold Asc at ha
 rw [List.pairwise_iff_getElem] at ha
 constructor
 ·intro h
  obtain ⟨i,hi,rfl⟩:=List.getElem_of_mem h
  rw [List.length_take] at hi
  rw [List.getElem_take]
  exact ⟨List.getElem_mem _,ha i t _ _ (by omega)⟩
 ·rintro ⟨h,hlt⟩
  obtain ⟨i,hi,rfl⟩:=List.getElem_of_mem h
  rcases Nat.lt_or_ge i t with h'|h'
  ·have:(l.take t)[i]'(by simp;omega)=l[i]:=List.getElem_take ..
   rw [← this];exact List.getElem_mem _
  ·rcases Nat.lt_or_ge t i with h2|h2
   ·have:=ha t i ht hi h2;omega
   ·obtain rfl:i=t:=by omega
    omega
theorem met_iff {n:Nat} (hl:l=filtB p es.length) {t:Nat} (ht:t<l.length):(∃ y∈l.take t,cLeadB es p y.toNat=true∧Rch (eAdj es p) y.toNat (l[t]).toNat)↔cLeadB es p (l[t]).toNat=false:=by
 have hasc:Asc l:=by rw [hl];exact filtB_asc _ _
 have hm:∀ x,x∈l↔∃ j:Nat,x=j∧j<es.length∧p j=true:=fun x=>by rw [hl];exact mem_filtB
 obtain ⟨i,hi,hi1,hi2⟩:=(hm _).1 (List.getElem_mem ht)
 rw [hi,Int.toNat_natCast]
 constructor
 ·rintro ⟨y,hy,h1,h2⟩
  rw [asc_take hasc ht] at hy
  obtain ⟨j,rfl,hj1,hj2⟩:=(hm y).1 hy.1
  rw [Int.toNat_natCast] at h2
  cases hb:cLeadB es p i with
  | false=>rfl
  | true=>exact absurd h2 (cLeadB_iff.1 hb j (by omega) hj2)
 ·intro hb
  obtain ⟨j,h1,h2,h3,h4⟩:=lead_of (es:=es) hi2 fun h=>by rw [cLeadB_iff.2 h] at hb;cases hb
  refine ⟨j,(asc_take hasc ht _).2 ⟨(hm _).2 ⟨j,rfl,by omega,h2⟩,by omega⟩,?_,?_⟩
  ·exact cLeadB_iff.2 h3
  ·exact h4
theorem compL_asc (i:Nat):Asc (compL es p i):=filtB_asc _ _
theorem mem_compL {i:Nat} {x:Int}:x∈compL es p i↔∃ j:Nat,x=j∧j<es.length∧Rch (eAdj es p) i j:=by
 unfold compL;rw [mem_filtB]
 exact ⟨fun ⟨j,h1,h2,h3⟩=>⟨j,h1,h2,rchB_iff.1 h3⟩,fun ⟨j,h1,h2,h3⟩=>⟨j,h1,h2,rchB_iff.2 h3⟩⟩
end
def vAdj (fs:List (Int × Int)) (a b:Nat):Prop:=((a:Int),(b:Int))∈fs∨((b:Int),(a:Int))∈fs
theorem vAdj_symm {fs:List (Int × Int)} (a b:Nat) (h:vAdj fs a b):vAdj fs b a:=Or.symm h
end Go.Proofs
namespace Go.Abs
open Go.RowKit

section
variable {T:TT} {H H0 G:AHeap} {v:Value} {l:List Int} {m:Nat} {t:TypeId} {z:Nat} {cs:List Value}

theorem lenK_of {a:Option Addr} {n c:Nat} {K:Nat→Prop} (k:K n):lenK (.slice a n c) K:=k
structure Keep (m:Nat) (H G:AHeap):Prop where
 len:H.length≤G.length
 old:∀ (b:Nat) (o:AObj),b<m→H[b]?=some (some o)→G[b]?=some (some o)
theorem Keep.refl:Keep m H H:=⟨Nat.le_refl _,fun _ _ _ h=>h⟩
theorem Keep.trans {G':AHeap} (h:Keep m H G) (k:Keep m G G'):Keep m H G':=⟨Nat.le_trans h.len k.len,fun b o hb ho=>k.old b o hb (h.old b o hb ho)⟩
theorem Keep.of_le (h:H.le G):Keep m H G:=⟨h.1,fun b o _ ho=>h.2 b o ho⟩
theorem Keep.le (h:Keep m H G) (h0:H0.le H) (hm:H0.length≤m):H0.le G:=⟨Nat.le_trans h0.1 h.len,fun b o ho=>h.old b o (by have:=lt_of_get ho;omega) (h0.2 b o ho)⟩
theorem Keep.own {b:Nat} (h:Keep m H G) (o:Own H b t cs) (hb:b<m):Own G b t cs:=h.old b _ hb o
theorem Own.lt {b:Nat} (o:Own H b t cs):b<H.length:=lt_of_get o
theorem Own.le {b:Nat} (o:Own H b t cs) (h:H.le G):Own G b t cs:=h.2 _ _ o
def Sl (m:Nat) (H:AHeap) (v:Value) (t:TypeId) (z:Nat) (cs:List Value):Prop:=
 (cs=[]∧(v=.slice none 0 0∨∃ a,v=.slice (some a) 0 0))∨∃ b n pre post,m≤b∧v=.slice (some ⟨b,List.length pre,none⟩) n (n+1)∧Own H b t (pre++cs++post)∧cs.length=n*z
theorem Fresh.sl (h:Fresh m H v t z cs):Sl m H v t z cs:=by
 rcases h with h|⟨b,n,h1,h2,h3,h4⟩
 ·exact .inl h
 ·exact .inr ⟨b,n,[],[],h1,h2,by simpa using h3,h4⟩
theorem Sl.le (h:Sl m H v t z cs) (hl:H.le G):Sl m G v t z cs:=by
 rcases h with h|⟨b,n,pre,post,h1,h2,h3,h4⟩
 ·exact .inl h
 ·exact .inr ⟨b,n,pre,post,h1,h2,h3.le hl,h4⟩
theorem Sl.less {m':Nat} (h:Sl m H v t z cs) (hm:m'≤m):Sl m' H v t z cs:=by
 rcases h with h|⟨b,n,pre,post,h1,h2,h3,h4⟩
 ·exact .inl h
 ·exact .inr ⟨b,n,pre,post,by omega,h2,h3,h4⟩
theorem Sl.but {b:Nat} (h:Sl m H v t z cs) (hb:But b H G) (hm:b<m):Sl m G v t z cs:=by
 rcases h with h|⟨c,n,pre,post,h1,h2,h3,h4⟩
 ·exact .inl h
 ·exact .inr ⟨c,n,pre,post,h1,h2,hb.own h3 (by omega),h4⟩
theorem Fresh.but {b:Nat} (h:Fresh m H v t z cs) (hb:But b H G) (hm:b<m):Fresh m G v t z cs:=by
 rcases h with h|⟨c,n,h1,h2,h3,h4⟩
 ·exact .inl h
 ·exact .inr ⟨c,n,h1,h2,hb.own h3 (by omega),h4⟩
theorem Fresh.keep {m':Nat} (h:Fresh m H v t z cs) (hk:Keep m' H G) (hm:∀ b n,v=.slice (some ⟨b,0,none⟩) n (n+1)→b<m'):Fresh m G v t z cs:=by
 rcases h with h|⟨c,n,h1,h2,h3,h4⟩
 ·exact .inl h
 ·exact .inr ⟨c,n,h1,h2,hk.own h3 (hm _ _ h2),h4⟩
theorem Sl.nil:Sl m H (.slice none 0 0) t z []:=.inl ⟨rfl,.inl rfl⟩
theorem Sl.ints (h:Sl m H v t 1 (LI l)):Ints H v l:=by
 rcases h with ⟨h1,h2⟩|⟨b,n,pre,post,h1,rfl,h3,h4⟩
 ·have:l=[]:=by simpa using h1
  subst this
  rcases h2 with rfl|⟨a,rfl⟩
  ·exact .inl ⟨rfl,rfl⟩
  ·exact .inr ⟨a,0,rfl,.inl rfl⟩
 ·simp at h4
  subst h4
  refine .inr ⟨_,_,rfl,.inr ⟨rfl,fun i x hx=>?_⟩⟩
  have hi:i<l.length:=lt_of_get hx
  rw [h3.cell,List.append_assoc,List.getElem?_append_right (Nat.le_add_right _ _),Nat.add_sub_cancel_left,List.getElem?_append_left (by simpa using hi)]
  simp [hx]
theorem Sl.len (h:Sl m H v t z cs) {n:Nat} (hz:0<z) (hn:cs.length=n*z) {K:Nat→Prop} (k:K n):lenK v K:=by
 rcases h with ⟨h1,h2⟩|⟨b,n',pre,post,h1,rfl,h3,h4⟩
 ·subst h1
  have:n=0:=by
   cases n with
   | zero=>rfl
   | succ n=>simp [Nat.add_mul] at hn;omega
  subst this
  rcases h2 with rfl|⟨a,rfl⟩ <;> exact k
 ·have:n'=n:=Nat.eq_of_mul_eq_mul_right hz (h4.symm.trans hn)
  subst this;exact k
def bk:Value→Option Nat
 | .slice (some a) _ (_+1)=>some a.block
 | _=>none
theorem Sl.lt (h:Sl m H v t z cs) {b:Nat} (hb:bk v=some b):m≤b∧b<H.length:=by
 rcases h with ⟨_,rfl|⟨a,rfl⟩⟩|⟨b',n,pre,post,h1,rfl,h3,_⟩
 ·cases hb
 ·cases hb
 ·cases hb;exact ⟨h1,h3.lt⟩
def Oth (v:Value) (H G:AHeap):Prop:=∀ (b:Nat) (o:AObj),bk v≠some b→H[b]?=some (some o)→G[b]?=some (some o)
theorem Sl.oth {w:Value} (h:Sl m H v t z cs) (k:Oth w H G) (hn:∀ b,bk v=some b→bk w≠some b):Sl m G v t z cs:=by
 rcases h with h|⟨b,n,pre,post,h1,rfl,h3,h4⟩
 ·exact .inl h
 ·exact .inr ⟨b,n,pre,post,h1,rfl,k b _ (hn b rfl) h3,h4⟩
theorem Fresh.bk_lt (h:Fresh m H v t z cs) {b:Nat} (hb:bk v=some b):m≤b∧b<H.length:=h.sl.lt hb
def Elem (T:TT) (t:TypeId) (z:Nat):Prop:=∃ ti,T t=some ti∧ti.size=z∧ti.bytes≤1024∧ti.fine=true
theorem Sl.app {ys:List Value} {x:Value} {n:Nat} {K:Value→AHeap→Prop} (he:Elem T t z) (hz:0<z) (h:Sl m H v t z cs) (hm:m≤H.length) (hx:cellsAt H x z n ys) (hs:cs.length+ys.length≤4294967296)
 (k0:ys=[]→K v H) (k:∀ v' G,Keep m H G→Oth v H G→(∀ b,bk v'=some b→H.length≤b)→Fresh m G v' t z (cs++ys)→K v' G):apK T t H v x K:=by
 obtain ⟨ti,e1,rfl,e3,e4⟩:=he
 unfold apK
 rw [e1]
 simp only
 have hyl:=hx.1
 by_cases hn:n=0
 ·subst hn
  have:ys=[]:=List.length_eq_zero_iff.1 (by omega)
  subst this
  refine ⟨0,[],hx,.inl ⟨rfl,?_,k0 rfl⟩⟩
  rcases h with ⟨_,rfl|⟨a,rfl⟩⟩|⟨b,n,pre,post,_,rfl,_⟩
  ·exact .inr rfl
  ·exact .inl ⟨a,0,0,rfl⟩
  ·exact .inl ⟨_,_,_,rfl⟩
 ·refine ⟨n,ys,hx,.inr ⟨by omega,?_⟩⟩
  have hle:n≤n*ti.size:=Nat.le_mul_of_pos_right _ hz
  rcases h with ⟨rfl,h1⟩|⟨b,n',pre,post,hb,rfl,h3,h4⟩
  ·refine ⟨0,[],H,?_,by simp at hs;omega,e3,e4,hz,k _ _ (Keep.of_le (le_snoc _ _)) (fun b o _ h=>(le_snoc _ _).2 b o h) (fun b h=>by cases h;exact Nat.le_refl _) ?_⟩
   ·rcases h1 with rfl|⟨a,rfl⟩
    ·exact .inl ⟨rfl,rfl,rfl,rfl⟩
    ·exact .inr (.inl ⟨a,rfl,rfl,rfl,rfl⟩)
   ·rw [Nat.zero_add];exact (fresh_snoc (by simpa using hyl)).less hm
  ·have hml:n'≤n'*ti.size:=Nat.le_mul_of_pos_right _ hz
   refine ⟨n',cs,H.set b none,.inr (.inr ⟨b,pre.length,n'+1,_,rfl,h3,by simp;omega,?_,rfl⟩),by omega,e3,e4,hz,k _ _ ?_ ?_ (fun b h=>by cases h;exact Nat.le_refl _) ?_⟩
   ·rw [List.append_assoc,List.drop_left,← h4,List.take_left]
   ·refine ⟨by simp,fun d o hd ho=>?_⟩
    have:=lt_of_get ho
    rw [List.getElem?_append_left (by simpa using this),List.getElem?_set_ne (by omega)];exact ho
   ·intro d o hd ho
    have:=lt_of_get ho
    rw [List.getElem?_append_left (by simpa using this),List.getElem?_set_ne (fun h=>hd (by rw [h];rfl))];exact ho
   ·refine .inr ⟨H.length,n'+n,hm,rfl,?_,by simp [h4,hyl,Nat.add_mul]⟩
    have:(H.set b none).length=H.length:=by simp
    rw [← this];exact snoc_get _ _
theorem Sl.pushN {ys:List Value} {n:Nat} {K:Value→AHeap→Prop} (he:Elem T t z) (hz:0<z) (h:Sl m H v t z cs) (hm:m≤H.length) (hy:ys.length=n*z) (h1:ys.all Value.oneCell'=true) (hs:cs.length+ys.length≤4294967296)
 (k0:ys≠[]) (k:∀ v' G,Keep m H G→Oth v H G→(∀ b,bk v'=some b→H.length≤b)→Fresh m G v' t z (cs++ys)→K v' G):newK H ys t (fun b1 H2=>apK T t H2 v (.slice (some ⟨b1,0,none⟩) n (n+1)) K):=by
 refine newK_f h1 fun H2 l2 n2 o2=>?_
 exact Sl.app he hz (h.le l2) (Nat.le_trans hm l2.1) (cellsAt_row o2 hy) hs (fun h=>absurd h k0) fun v' G hk ho hn hf=>k v' G ((Keep.of_le l2).trans hk) (fun b o hb h=>ho b o hb (l2.2 b o h)) (fun b h=>Nat.le_trans l2.1 (hn b h)) hf
theorem Sl.drop {i:Nat} {n:Nat} {K:Value→Prop} (h:Sl m H v t z cs) (hn:cs.length=n*z) (hz:0<z) (h0:0<n) (hi:i≤n) (k:∀ v',Sl m H v' t z (cs.drop (i*z))→K v'):sliceK H t v (some (.int .i64 (i:Int))) none z K:=by
 have hle:i*z≤n*z:=Nat.mul_le_mul_right z hi
 have hnz:n≤n*z:=Nat.le_mul_of_pos_right _ hz
 rcases h with ⟨rfl,h1⟩|⟨b,n',pre,post,hb,rfl,h3,h4⟩
 ·simp at hn;omega
 ·have:n'=n:=Nat.eq_of_mul_eq_mul_right hz (h4.symm.trans hn)
  subst this
  refine ⟨⟨_,_,h3,by simp;omega⟩,by simp,by simp;omega,by simp,?_⟩
  refine k _ (.inr ⟨b,n'-i,pre++cs.take (i*z),post,hb,?_,?_,?_⟩)
  ·simp [Nat.min_eq_left (show i*z≤cs.length by omega)]
  ·rw [List.append_assoc pre,List.take_append_drop];exact h3
  ·rw [List.length_drop,hn,Nat.sub_mul]
end
end Go.Abs
namespace Go.Proofs
open Go.Abs

variable {H:AHeap} {v u f:Value} {l m c:List Int} {es fs:List (Int × Int)} {K:Value→AHeap→Prop}

theorem E_int:Elem T0 2 1:=⟨tiInt,T0_int.1,T0_int.2.1,by rw [T0_int.2.2.1];decide,T0_int.2.2.2⟩
theorem LB_get {S:List Bool} {i:Nat} (h:i<S.length):(LB S)[i]?=some (.bool (S.getD i false)):=by simp [h]
abbrev NI (Q:List Nat):List Int:=Q.map Int.ofNat
def lenV:Value→Nat
 | .slice _ n _=>n
 | _=>0
theorem Sl_lenV {m:Nat} {t:TypeId} {cs:List Value} (h:Sl m H v t 1 cs):lenV v=cs.length:=by
 rcases h with ⟨rfl,rfl|⟨a,rfl⟩⟩|⟨b,n,pre,post,_,rfl,_,h⟩
 ·rfl
 ·rfl
 ·simp [lenV,h]
theorem isOn_ok {e:Int × Int} {x:Int} (k:∀ G,H.le G→K (.bool (on e x)) G):AC Tryz.prog T0 169 [ve e,.int .i64 x] H K:=by
 apply F169.ac
 unfold F169.B2
 refine newK_f rfl fun H1 l1 n1 o1=>?_
 unfold F169.B1
 have k:=k _ l1
 refine ldI_own o1 rfl (pif_cases (fun hb=>?_) fun hb=>?_)
 ·rw [show on e x=true by unfold on;rw [hb];rfl] at k;exact k
 ·rw [show on e x=(e.2==x) by unfold on;rw [hb];rfl] at k
  exact ldI_own o1 rfl k
theorem at_ok {n x:Int} (h:Edges H v es) (hl:es.length≤1048576) (k:∀ v' G,H.le G→Sl H.length G v' 2 1 (LI (atL es x))→K v' G):AC Tryz.prog T0 112 [.agg ⟨[.int .i64 n,v]⟩,.int .i64 x] H K:=by
 apply F112.ac
 unfold F112.B10
 refine newK_f (all_iv (edges_one' h)) fun H1 l1 n1 o1=>?_
 unfold F112.B9 F112.B8
 refine ld1_own o1 rfl ((h.le l1).len ?_)
 unfold F112.L2
 refine ⟨fun x1 x5 x9 x10 x11 G=>x=x1∧v=x9∧(es.length:Int)=x10∧H.le G∧∃ i:Nat,x11=i∧i≤es.length∧Sl H.length G x5 2 1 (LI (atTo es x i)),fun _ _ _ _ x11 _=>es.length-x11.toNat,⟨rfl,rfl,rfl,l1,0,rfl,by omega,.nil⟩,?_⟩
 rintro x1 x5 x9 x10 x11 G ⟨rfl,rfl,rfl,hG,i,rfl,hi,hF⟩
 unfold F112.B7
 refine pif_cases (fun hb=>?_) fun hb=>?_
 ·have hlt:i<es.length:=by have:=of_decide_eq_true hb;omega
  unfold F112.B6
  obtain ⟨b,o,hk,c1,c2⟩:=(h.le hG).idx (show (0:Int)≤i by omega) (by omega)
  simp only [Int.toNat_natCast] at c1 c2
  refine hk _ (ldI_mk c1 (ldI_mk c2 (newK_f rfl fun H2 l2 n2 o2=>stK_f o2 (by simp) (by simp [Value.oneCell']) rfl fun H3 b3 o3=>?_)))
  have l3:G.le H3:=b3.le l2 (Nat.le_refl _)
  unfold F112.B5
  refine ldI_own o3 rfl (ldI_own o3 rfl (isOn_ok (e:=es.getD i (0,0)) fun H4 l4=>asB_mk ?_))
  have l4:=AHeap.le_trans l3 l4
  have hF:=hF.le l4
  have lG:=AHeap.le_trans hG l4
  refine pif_cases (fun hs=>?_) fun hs=>?_
  ·unfold F112.B4
   refine hF.pushN E_int (by decide) lG.1 (n:=1) (ys:=[.int .i64 i]) rfl rfl (by have:=atTo_length es x i;simp;omega) (by simp) fun v' G2 k2 _ _ f2=>?_
   unfold F112.B3
   rw [wrap_id (by omega) (by omega)]
   refine ⟨⟨rfl,rfl,rfl,k2.le lG (Nat.le_refl _),i+1,by omega,by omega,?_⟩,by simp;omega⟩
   rw [atTo_succ,if_pos hs]
   simpa using f2.sl
  ·unfold F112.B3
   rw [wrap_id (by omega) (by omega)]
   refine ⟨⟨rfl,rfl,rfl,lG,i+1,by omega,by omega,?_⟩,by simp;omega⟩
   rw [atTo_succ,if_neg (by rw [hs];decide),List.append_nil];exact hF
 ·have hge:i=es.length:=by have:=of_decide_eq_false hb;omega
  subst hge
  unfold F112.B1
  exact k _ _ hG hF
structure InX (es:List (Int × Int)) (p:Nat→Bool) (e x M:Nat) (D:Nat→Prop) (S:Nat→Bool) (Q:List Nat):Prop where
 ex:Ex (eAdj es p) e S (x::Q)
 bnd:∀ y,S y=true→y<es.length
 mu:2*unseen S es.length+(Q.length+1)≤M
 past:∀ j,D j→S j=true
theorem InX.more {es:List (Int × Int)} {p:Nat→Bool} {e x M:Nat} {D D':Nat→Prop} {S:Nat→Bool} {Q:List Nat} (h:InX es p e x M D S Q) (hd:∀ j,D' j→D j∨S j=true):InX es p e x M D' S Q:=
 ⟨h.ex,h.bnd,h.mu,fun j hj=>(hd j hj).elim (h.past j) id⟩
theorem InX.push {es:List (Int × Int)} {p:Nat→Bool} {e x M y:Nat} {D D':Nat→Prop} {S S':Nat→Bool} {Q:List Nat} (h:InX es p e x M D S Q) (hy:eAdj es p x y) (hn:S y=false) (hs:∀ j,S' j=insB S y j) (hd:∀ j,D' j→D j∨j=y):InX es p e x M D' S' (Q++[y]):=by
 obtain rfl:S'=insB S y:=funext hs
 have hx:S x=true:=h.ex.q x (by simp)
 refine ⟨h.ex.push hx hy,fun z hz=>?_,?_,fun j hj=>?_⟩
 ·by_cases e':z=y
  ·rw [e'];exact hy.1
  ·exact h.bnd z (insB_ne hz e')
 ·have:=unseen_ins (n:=es.length) hy.1 hn
  have:=h.mu
  simp;omega
 ·rcases hd j hj with hj|rfl
  ·exact insB_of (h.past j hj)
  ·exact insB_self _ _
theorem InX.pop {es:List (Int × Int)} {p:Nat→Bool} {e x M:Nat} {D:Nat→Prop} {S:Nat→Bool} {Q:List Nat} (h:InX es p e x M D S Q) (hd:∀ j,j<es.length→p j=true→(on (es.getD j (0,0)) (en (es.getD x (0,0)) 0)=true∨on (es.getD j (0,0)) (en (es.getD x (0,0)) 1)=true)→D j):Ex (eAdj es p) e S Q∧2*unseen S es.length+Q.length<M:=by
 refine ⟨h.ex.pop fun y hy=>?_,by have:=h.mu;omega⟩
 obtain ⟨h1,h2,w,h3,h4⟩:=hy
 refine h.past y (hd y h1 h2 ?_)
 rcases on_cases h3 with rfl|rfl
 ·exact .inl h4
 ·exact .inr h4
theorem or_bit {s y:Nat} (j:Nat):(s|||2^y).testBit j=insB (fun j=>s.testBit j) y j:=by
 simp [insB,Nat.testBit_or,Nat.testBit_two_pow]
def PastE (es:List (Int × Int)) (p:Nat→Bool) (x m:Nat) (j:Nat):Prop:=j<es.length∧p j=true∧∃ m',m'<m∧on (es.getD j (0,0)) (en (es.getD x (0,0)) m')=true
def PastT (es:List (Int × Int)) (p:Nat→Bool) (x m t:Nat) (j:Nat):Prop:=PastE es p x m j∨(p j=true∧∃ t',t'<t∧(atL es (en (es.getD x (0,0)) m)).getD t' 0=j∧t'<(atL es (en (es.getD x (0,0)) m)).length)
theorem PastT.fin {es:List (Int × Int)} {p:Nat→Bool} {x m:Nat} {j:Nat} (h:PastE es p x (m+1) j):PastT es p x m (atL es (en (es.getD x (0,0)) m)).length j:=by
 obtain ⟨h1,h2,m',h3,h4⟩:=h
 by_cases e:m'=m
 ·subst e
  have hm:(j:Int)∈atL es (en (es.getD x (0,0)) m'):=mem_atL.2 ⟨j,rfl,h1,h4⟩
  obtain ⟨t,ht,hte⟩:=List.getElem_of_mem hm
  exact .inr ⟨h2,t,ht,by rw [getD_of ht,hte],ht⟩
 ·exact .inl ⟨h1,h2,m',by omega,h4⟩
theorem PastT.step {es:List (Int × Int)} {p:Nat→Bool} {x m t:Nat} {j:Nat} (h:PastT es p x m (t+1) j):PastT es p x m t j∨(p j=true∧(atL es (en (es.getD x (0,0)) m)).getD t 0=j):=by
 rcases h with h|⟨h1,t',h2,h3,h4⟩
 ·exact .inl (.inl h)
 ·by_cases e:t'=t
  ·subst e;exact .inr ⟨h1,h3⟩
  ·exact .inl (.inr ⟨h1,t',by omega,h3,h4⟩)
theorem at_get {es:List (Int × Int)} {w:Int} {t:Nat} (h:t<(atL es w).length):∃ i:Nat,(atL es w).getD t 0=i∧i<es.length∧on (es.getD i (0,0)) w=true:=by
 obtain ⟨i,h1,h2,h3⟩:=mem_atL.1 (List.getElem_mem h)
 exact ⟨i,by rw [getD_of h];exact h1,h2,h3⟩
def BitQ (m0:Nat) (X:(Nat→Bool)→List Nat→Prop) (w:Int) (q:Value) (G:AHeap):Prop:=∃ (s:Nat) (Q:List Nat),w=((s:Nat):Int)∧s<2^64∧X (fun j=>s.testBit j) Q∧Sl m0 G q 2 1 (LI (NI Q))
def chP (c:List Int) (e:Nat) (b:Int) (j:Nat):Bool:=c.getD j 0==c.getD e 0||c.getD j 0==b
end Go.Proofs
namespace Go.Proofs
open Go.Abs

variable {H G:AHeap} {v u f:Value} {l m c:List Int} {es fs:List (Int × Int)} {K:Value→AHeap→Prop} {A:Nat→Prop} {B:Nat} {ls:List (List Int)}

noncomputable def tiRow:TI:=(T0 42).getD ⟨.bool,0,0,undef⟩
theorem E_row:Elem T0 42 1:=⟨tiRow,by kernel_rfl,by kernel_rfl,of_decide_eq_true (by kernel_rfl),by kernel_rfl⟩
noncomputable def tiEdge:TI:=(T0 28).getD ⟨.bool,0,0,undef⟩
theorem E_edge:Elem T0 28 2:=⟨tiEdge,by kernel_rfl,by kernel_rfl,of_decide_eq_true (by kernel_rfl),by kernel_rfl⟩
theorem Sl_rd1 {m0:Nat} {t:TypeId} {cs:List Value} {i:Int} {K:Nat→Nat→Prop} (h:Sl m0 H v t 1 cs) (h0:0≤i) (h1:i<cs.length) (k:∀ b o,H.cell b o=cs[i.toNat]?→K b o):idxK v i 1 K:=by
 rcases h with ⟨rfl,_⟩|⟨b,n,pre,post,_,rfl,ho,hn⟩
 ·simp at h1;omega
 ·refine ⟨h0,by omega,k _ _ ?_⟩
  rw [Nat.mul_one,Own.cell ho,List.append_assoc,List.getElem?_append_right (Nat.le_add_right _ _),Nat.add_sub_cancel_left,List.getElem?_append_left (by omega)]
theorem Sl_rd {m0:Nat} {t:TypeId} {cs:List Value} {i:Int} {x:Value} {K:Value→Prop} (h:Sl m0 H v t 1 cs) (h0:0≤i) (h1:i<cs.length) (hx:cs[i.toNat]?=some x) (k:K x):idxK v i 1 (fun b o=>ld1 H b o K):=
 Sl_rd1 h h0 h1 fun b o hc=>ld1_mk (hc.trans hx) k
theorem Sl_rdI {m0:Nat} {t:TypeId} {cs:List Value} {i:Int} {kk:IntKind} {x:Int} {K:Int→Prop} (h:Sl m0 H v t 1 cs) (h0:0≤i) (h1:i<cs.length) (hx:cs[i.toNat]?=some (.int kk x)) (k:K x):idxK v i 1 (fun b o=>ldI kk H b o K):=
 Sl_rd1 h h0 h1 fun b o hc=>ldI_mk (hc.trans hx) k
def RowsF (A:Nat→Prop) (B:Nat) (H:AHeap) (v:Value) (ls:List (List Int)):Prop:=
 ∃ vs:List Value,Fresh 0 H v 42 1 vs∧vs.length=ls.length∧(∀ b,bk v=some b→A b∧b<B)∧
  ∀ i,i<ls.length→∃ w,vs[i]?=some w∧Fresh 0 H w 2 1 (LI (ls.getD i []))∧∀ b,bk w=some b→A b∧b<B∧bk v≠some b∧∀ j w',j<i→vs[j]?=some w'→bk w'≠some b
theorem RowsF.nil:RowsF A B H (.slice none 0 0) []:=⟨[],.inl ⟨rfl,.inl rfl⟩,rfl,(fun b h=>by cases h),fun i h=>absurd h (by simp)⟩
theorem RowsF.mono {A':Nat→Prop} {B':Nat} (h:RowsF A B H v ls) (ha:∀ b,A b→A' b) (hb:B≤B'):RowsF A' B' H v ls:=by
 obtain ⟨vs,h1,h2,h3,h4⟩:=h
 refine ⟨vs,h1,h2,fun b hbk=>⟨ha b (h3 b hbk).1,by have:=(h3 b hbk).2;omega⟩,fun i hi=>?_⟩
 obtain ⟨w,g1,g2,g3⟩:=h4 i hi
 exact ⟨w,g1,g2,fun b hbk=>⟨ha b (g3 b hbk).1,by have:=(g3 b hbk).2.1;omega,(g3 b hbk).2.2⟩⟩
theorem fresh_oth {m0:Nat} {t:TypeId} {z:Nat} {cs:List Value} (h:Fresh m0 H v t z cs) (k:∀ b o,bk v=some b→H[b]?=some (some o)→G[b]?=some (some o)):Fresh m0 G v t z cs:=by
 rcases h with h|⟨b,n,h1,rfl,h3,h4⟩
 ·exact .inl h
 ·exact .inr ⟨b,n,h1,rfl,k b _ rfl h3,h4⟩
theorem RowsF.move (h:RowsF A B H v ls) (k:∀ b o,A b→b<B→H[b]?=some (some o)→G[b]?=some (some o)):RowsF A B G v ls:=by
 obtain ⟨vs,h1,h2,h3,h4⟩:=h
 refine ⟨vs,fresh_oth h1 fun b o hb ho=>k b o (h3 b hb).1 (h3 b hb).2 ho,h2,h3,fun i hi=>?_⟩
 obtain ⟨w,g1,g2,g3⟩:=h4 i hi
 exact ⟨w,g1,fresh_oth g2 fun b o hb ho=>k b o (g3 b hb).1 (g3 b hb).2.1 ho,g3⟩
theorem RowsF.le (h:RowsF A B H v ls) (hl:H.le G):RowsF A B G v ls:=h.move fun b o _ _ ho=>hl.2 b o ho
theorem RowsF.keep (h:RowsF A B H v ls) (hk:Keep B H G):RowsF A B G v ls:=h.move fun b o _ hb ho=>hk.old b o hb ho
theorem RowsF.len (h:RowsF A B H v ls) {K:Nat→Prop} (k:K ls.length):lenK v K:=by
 obtain ⟨vs,h1,h2,_⟩:=h
 exact h1.sl.len (by decide) (n:=ls.length) (by omega) k
theorem RowsF.push {w:Value} (h:RowsF A B H v ls) (hB:B≤H.length) (hA:∀ b,B≤b→A b) (hw:Fresh B H w 2 1 (LI l)) (hs:ls.length<4294967296)
 (k:∀ v' G,Oth v H G→(∀ b,bk v'=some b→H.length≤b)→H.length≤G.length→RowsF A G.length G v' (ls++[l])→K v' G) :
 pif w.oneCell' (newK H [w] 42 (fun b1 H2=>apK T0 42 H2 v (.slice (some ⟨b1,0,none⟩) 1 (1+1)) K)) False:=by
 have hw1:w.oneCell'=true:=ints_one hw.ints
 refine pif_t hw1 ?_
 obtain ⟨vs,h1,h2,h3,h4⟩:=h
 refine h1.sl.pushN E_row (by decide) (Nat.zero_le _) (n:=1) (ys:=[w]) rfl (by simpa using hw1) (by simp;omega) (by simp) fun v' G k1 ot nb f'=>k v' G ot nb k1.len ?_
 have hbw:∀ b,bk w=some b→B≤b∧b<H.length:=fun b hb=>hw.bk_lt hb
 refine ⟨vs++[w],f',by simp [h2],fun b hb=>⟨hA b (by have:=nb b hb;omega),(f'.bk_lt hb).2⟩,fun i hi=>?_⟩
 by_cases e:i<ls.length
 ·obtain ⟨w',g1,g2,g3⟩:=h4 i e
  refine ⟨w',by rw [List.getElem?_append_left (by omega)];exact g1,?_,fun b hb=>?_⟩
  ·rw [show (ls++[l]).getD i []=ls.getD i [] by simp [List.getD,List.getElem?_append_left e]]
   exact fresh_oth g2 fun b o hb ho=>ot b o (g3 b hb).2.2.1 ho
  ·obtain ⟨q1,q2,q3,q4⟩:=g3 b hb
   refine ⟨q1,by have:=k1.len;omega,fun hv=>by have:=nb b hv;omega,fun j w2 hj hw2=>q4 j w2 hj ?_⟩
   rwa [List.getElem?_append_left (by omega)] at hw2
 ·have:i=ls.length:=by simp at hi;omega
  subst this
  refine ⟨w,by rw [← h2];simp,?_,fun b hb=>?_⟩
  ·rw [show (ls++[l]).getD ls.length []=l by simp [List.getD]]
   exact fresh_oth (hw.less (Nat.zero_le _)) fun b o hb ho=>ot b o (fun hv=>by have:=(h3 b hv).2;have:=(hbw b hb).1;omega) ho
  ·have hb':=hbw b hb
   refine ⟨hA b hb'.1,by have:=k1.len;omega,fun hv=>by have:=nb b hv;omega,fun j w2 hj hw2 hw3=>?_⟩
   rw [List.getElem?_append_left (by omega)] at hw2
   obtain ⟨w4,g1,_,g3⟩:=h4 j hj
   rw [hw2] at g1;cases g1
   have:=(g3 b hw3).2.1;omega
theorem RowsF.row (h:RowsF A B H v ls) {i:Nat} (hi:i<ls.length) {K:Value→Prop} (k:∀ w,Fresh 0 H w 2 1 (LI (ls.getD i []))→K w):idxK v i 1 (fun b o=>ld1 H b o K):=by
 obtain ⟨vs,h1,h2,h3,h4⟩:=h
 obtain ⟨w,g1,g2,g3⟩:=h4 i hi
 exact Sl_rd h1.sl (by omega) (by omega) (by rw [Int.toNat_natCast];exact g1) (k w g2)
end Go.Proofs
namespace Go.Proofs
open Go.Abs

variable {H:AHeap} {v u f:Value} {l m c:List Int} {es fs:List (Int × Int)} {K:Value→AHeap→Prop}

theorem u64_sum {a b:Nat} (h:a+b<2^64):IntKind.u64.wrap (((a:Nat):Int)+((b:Nat):Int))=((a+b:Nat):Int):=by
 rw [← Int.natCast_add,u64_nat h]
theorem onesCount_ok {s:Nat} (hs:s<2^64) (k:K (.int .i64 (popc s 64:Nat)) H):AC Tryz.prog T0 139 [.int .u64 (s:Nat)] H K:=by
 have d64:∀ a k:Nat,a<2^64→a/k<2^64:=fun a k h=>Nat.lt_of_le_of_lt (Nat.div_le_self _ _) h
 apply F139.ac
 unfold F139.B8 F139.B7
 refine ⟨by decide,?_⟩
 have ma:msk 85 8=6148914691236517205:=msk_a
 have mb:msk 51 8=3689348814741910323:=msk_b
 have mc:msk 15 8=1085102592571150095:=msk_c
 have la:∀ x,x&&&msk 85 8≤6148914691236517205:=fun x=>by rw [← ma];exact Nat.and_le_right
 have lb:∀ x,x&&&msk 51 8≤3689348814741910323:=fun x=>by rw [← mb];exact Nat.and_le_right
 rw [shr_nat,show min (Int.toNat 1) 64=1 from rfl,show (6148914691236517205:Int)=((msk 85 8:Nat):Int) by rw [ma];rfl,bits_and (d64 _ _ hs) (by rw [ma];decide),bits_and hs (by rw [ma];decide),
  u64_sum (by have:=la (s/2^1);have:=la s;omega),show (s/2^1&&&msk 85 8)+(s&&&msk 85 8)=stA 8 s from rfl]
 have hA:stA 8 s<2^64:=by unfold stA;have:=la (s/2);have:=la s;omega
 unfold F139.B6
 refine ⟨by decide,?_⟩
 rw [shr_nat,show min (Int.toNat 2) 64=2 from rfl,show (3689348814741910323:Int)=((msk 51 8:Nat):Int) by rw [mb];rfl,bits_and (d64 _ _ hA) (by rw [mb];decide),bits_and hA (by rw [mb];decide),
  u64_sum (by have:=lb (stA 8 s/2^2);have:=lb (stA 8 s);omega),show (stA 8 s/2^2&&&msk 51 8)+(stA 8 s&&&msk 51 8)=byts 8 s from rfl]
 have hB:byts 8 s≤7378697629483820646:=by unfold byts stB;have:=lb (stA 8 s/4);have:=lb (stA 8 s);omega
 unfold F139.B5
 refine ⟨by decide,?_⟩
 rw [shr_nat,show min (Int.toNat 4) 64=4 from rfl,show (1085102592571150095:Int)=((msk 15 8:Nat):Int) by rw [mc];rfl,u64_sum (by omega),bits_and (by omega) (by rw [mc];decide),
  show (byts 8 s/2^4+byts 8 s)&&&msk 15 8=pops 8 s from rfl]
 have hC:=pops_le (x:=s)
 obtain ⟨a,ha⟩:∃ a,a=pops 8 s:=⟨_,rfl⟩
 rw [← ha] at hC ⊢
 unfold F139.B4
 refine ⟨by decide,?_⟩
 rw [shr_nat,show min (Int.toNat 8) 64=8 from rfl,u64_sum (by omega)]
 obtain ⟨b,hb⟩:∃ b,b=a+a/2^8:=⟨_,rfl⟩
 rw [← hb]
 unfold F139.B3
 refine ⟨by decide,?_⟩
 rw [shr_nat,show min (Int.toNat 16) 64=16 from rfl,u64_sum (by omega)]
 obtain ⟨c,hc⟩:∃ c,c=b+b/2^16:=⟨_,rfl⟩
 rw [← hc]
 unfold F139.B2
 refine ⟨by decide,?_⟩
 rw [shr_nat,show min (Int.toNat 32) 64=32 from rfl,u64_sum (by omega)]
 obtain ⟨d,hd⟩:∃ d,d=c+c/2^32:=⟨_,rfl⟩
 rw [← hd]
 unfold F139.B1
 have hdl:d<2^62:=by omega
 have hp:=pops_sum ha hb hc hd
 have e1:IntKind.i64.wrap ((d:Nat):Int)=((d:Nat):Int):=wrap_id (by omega) (by omega)
 rw [e1,bv_nat,show (127:Int)=((127:Nat):Int) from rfl,bv_nat,BitVec.toNat_and,BitVec.toNat_ofNat,BitVec.toNat_ofNat,Nat.mod_eq_of_lt (by omega),Nat.mod_eq_of_lt (by decide),show (127:Nat)=2^7-1 from rfl,Nat.and_two_pow_sub_one_eq_mod,
  show d%2^7=popc s 64 from hp]
 have:popc s 64≤64:=bitsTo_length s 64
 rw [wrap_id (by omega) (by omega)]
 exact k
theorem size_ok {s:Nat} (hs:s<2^64) (k:K (.int .i64 (popc s 64:Nat)) H):AC Tryz.prog T0 74 [.int .u64 (s:Nat)] H K:=by
 apply F74.ac
 unfold F74.B2 F74.B1
 exact onesCount_ok hs (asI_mk k)
theorem IsS.short {l:List Int} {n:Nat} (h:IsS l n):l.length≤n:=by rw [h.filt];exact filtB_length _ _
end Go.Proofs
namespace Go.Proofs
open Go.Abs

variable {H G:AHeap} {v u f:Value} {l m c:List Int} {es fs:List (Int × Int)} {K:Value→AHeap→Prop} {A:Nat→Prop} {B:Nat} {ls:List (List Int)}

noncomputable def tiSet:TI:=(T0 83).getD ⟨.bool,0,0,undef⟩
theorem E_set:Elem T0 83 1:=⟨tiSet,by kernel_rfl,by kernel_rfl,of_decide_eq_true (by kernel_rfl),by kernel_rfl⟩
theorem LU_get {Z:List Nat} {i:Nat} (h:i<Z.length):(LU Z)[i]?=some (.int .u64 (Z.getD i 0:Nat)):=by simp [h]
theorem indexU_ok {p:Nat→Bool} {Z:List Nat} {m0:Nat} (h:Sl m0 H v 83 1 (LU Z)) (hl:Z.length≤4611686018427387904) (hf:∀ e∈Z,Cl H f (.int .u64 (e:Nat)) (p e)) (k:∀ r G,H.le G→decide (r≥0)=Z.any p→K (.int .i64 r) G) :
 AC Tryz.prog T0 210 [v,f] H K:=by
 apply F210.ac
 unfold F210.B9 F210.B8
 refine h.len (by decide) (n:=Z.length) (by simp) ?_
 unfold F210.L2
 refine ⟨fun x0 x1 x7 x8 G=>v=x0∧f=x1∧(Z.length:Int)=x7∧H.le G∧∃ n:Nat,x8=n∧n≤Z.length∧∀ i:Nat,i<n→p (Z.getD i 0)=false,fun _ _ _ x8 _=>Z.length-x8.toNat,⟨rfl,rfl,rfl,AHeap.le_refl _,0,rfl,by omega,fun i hi=>absurd hi (by omega)⟩,?_⟩
 rintro x0 x1 x7 x8 G ⟨rfl,rfl,rfl,hG,n,rfl,hn',hp⟩
 unfold F210.B7
 refine pif_cases (fun hb=>?_) fun hb=>?_
 ·have hn:n<Z.length:=by have:=of_decide_eq_true hb;omega
  unfold F210.B6 F210.B5
  refine Sl_rdI (h.le hG) (by omega) (by simp;omega) (by rw [Int.toNat_natCast];exact LU_get hn) ?_
  rw [getD_of hn]
  refine hf Z[n] (List.getElem_mem hn) G hG _ fun G2 hG2=>asB_mk (pif_cases (fun hb=>?_) fun hb=>?_)
  ·unfold F210.B4
   refine k _ _ (AHeap.le_trans hG hG2) ?_
   rw [List.any_eq_true.2 ⟨Z[n],List.getElem_mem hn,hb⟩];simp
  ·unfold F210.B3
   rw [wrap_id (by omega) (by omega)]
   refine ⟨⟨rfl,rfl,rfl,AHeap.le_trans hG hG2,n+1,by omega,by omega,fun i hi=>?_⟩,by simp;omega⟩
   by_cases he:i=n
   ·subst he;rw [getD_of hn];exact hb
   ·exact hp i (by omega)
 ·have hge:n=Z.length:=by have:=of_decide_eq_false hb;omega
  unfold F210.B1
  refine k _ _ hG ?_
  have:Z.any p=false:=by
   rw [List.any_eq_false]
   intro e he
   obtain ⟨i,hi,rfl⟩:=List.getElem_of_mem he
   have:=hp i (by omega)
   rw [getD_of hi] at this;simp [this]
  rw [this];simp
theorem containsU_ok {p:Nat→Bool} {Z:List Nat} {m0:Nat} (h:Sl m0 H v 83 1 (LU Z)) (hl:Z.length≤4611686018427387904) (hf:∀ e∈Z,Cl H f (.int .u64 (e:Nat)) (p e)) (k:∀ G,H.le G→K (.bool (Z.any p)) G) :
 AC Tryz.prog T0 190 [v,f] H K:=by
 apply F190.ac
 unfold F190.B2 F190.B1
 refine indexU_ok h hl hf fun r G hG hr=>asI_mk ?_
 rw [hr];exact k G hG
noncomputable def compN (es:List (Int × Int)) (p:Nat→Bool) (i:Nat):Nat:=setN (compL es p i)
noncomputable def cycN (es:List (Int × Int)) (p:Nat→Bool) (l:List Int):List Nat:=(l.filter fun x=>cLeadB es p x.toNat).map fun x=>compN es p x.toNat
theorem cycN_take {es:List (Int × Int)} {p:Nat→Bool} {l:List Int} {t:Nat} (h:t<l.length):cycN es p (l.take (t+1))=cycN es p (l.take t)++if cLeadB es p (l[t]).toNat then [compN es p (l[t]).toNat] else []:=by
 unfold cycN
 rw [List.take_succ_eq_append_getElem h,List.filter_append,List.map_append]
 congr 1
 cases hl:cLeadB es p (l[t]).toNat <;> simp [hl]
theorem compL_range {es:List (Int × Int)} {p:Nat→Bool} {i:Nat} {x:Int} (h:x∈compL es p i):0≤x∧x<es.length:=by
 obtain ⟨j,rfl,h1,_⟩:=mem_compL.1 h
 omega
theorem compN_bit {es:List (Int × Int)} {p:Nat→Bool} {i j:Nat}:(compN es p i).testBit j=true↔j<es.length∧Rch (eAdj es p) i j:=by
 unfold compN
 rw [setN_bit fun x hx=>(compL_range hx).1,decide_eq_true_iff,mem_compL]
 constructor
 ·rintro ⟨j',h1,h2⟩
  obtain rfl:j=j':=by omega
  exact h2
 ·rintro ⟨h1,h2⟩
  exact ⟨j,rfl,h1,h2⟩
theorem compN_of {es:List (Int × Int)} {p:Nat→Bool} {i s:Nat} (h1:∀ j,s.testBit j=true→j<es.length) (h2:∀ j,s.testBit j=true↔Rch (eAdj es p) i j):s=compN es p i:=by
 apply Nat.eq_of_testBit_eq
 intro j
 rw [Bool.eq_iff_iff,compN_bit,← h2]
 exact ⟨fun h=>⟨h1 j h,h⟩,fun h=>h.2⟩
theorem compN_lt {es:List (Int × Int)} {p:Nat→Bool} {i:Nat} (hm:es.length≤64):compN es p i<2^64:=setN_lt fun x hx=>by have:=compL_range hx;omega
theorem compN_list {es:List (Int × Int)} {p:Nat→Bool} {i:Nat} (hm:es.length≤64):bitsL (compN es p i)=compL es p i:=by
 rw [bitsL_filt hm fun j hj=>(compN_bit.1 hj).1]
 unfold compL
 refine filtB_congr fun j hj=>?_
 rw [Bool.eq_iff_iff,compN_bit,rchB_iff]
 exact ⟨fun h=>h.2,fun h=>⟨hj,h⟩⟩
theorem cycN_any {es:List (Int × Int)} {p:Nat→Bool} {l:List Int} (hl:l=filtB p es.length) {t x:Nat} (ht:t<l.length) (hx:l[t]=(x:Int)) (hm:x<es.length):(cycN es p (l.take t)).any (fun z=>z.testBit x)=!cLeadB es p x:=by
 have h:=met_iff (n:=0) hl ht
 rw [hx,Int.toNat_natCast] at h
 have:(cycN es p (l.take t)).any (fun z=>z.testBit x)=true↔cLeadB es p x=false:=by
  rw [← h,List.any_eq_true]
  constructor
  ·rintro ⟨z,hz,hb⟩
   unfold cycN at hz
   rw [List.mem_map] at hz
   obtain ⟨y,hy,rfl⟩:=hz
   rw [List.mem_filter] at hy
   exact ⟨y,hy.1,hy.2,(compN_bit.1 hb).2⟩
  ·rintro ⟨y,h1,h2,h3⟩
   refine ⟨compN es p y.toNat,?_,compN_bit.2 ⟨hm,h3⟩⟩
   unfold cycN
   exact List.mem_map.2 ⟨y,List.mem_filter.2 ⟨h1,h2⟩,rfl⟩
 rw [Bool.eq_iff_iff,this];simp
theorem has_cl {x b:Nat} {s:Nat} (hs:s<2^64) (ho:Own H b 2 [.int .i64 (x:Nat)]):Cl H (.func (.func 191) ⟨[]⟩ ⟨[.pointer (some ⟨b,0,none⟩)]⟩) (.int .u64 (s:Nat)) (s.testBit x):=by
 intro G hG K k
 refine callV_mk ?_
 apply F191.ac
 unfold F191.B2 F191.B1
 refine asP_mk (ldI_own (ho.le hG) rfl (has_ok hs (by omega) (asB_mk ?_)))
 rw [Int.toNat_natCast]
 exact k _ (AHeap.le_refl _)
theorem cycles_ok {n:Int} {s:Nat} (h:Edges H v es) (hg:IsG n es) (hs:s<2^64) (hsb:∀ j,s.testBit j=true→j<es.length)
 (k:∀ v' G,H.le G→Fresh H.length G v' 83 1 (LU (cycN es (fun j=>s.testBit j) (filtB (fun j=>s.testBit j) es.length)))→K v' G):AC Tryz.prog T0 162 [.agg ⟨[.int .i64 n,v]⟩,.int .u64 (s:Nat)] H K:=by
 have h30:es.length≤30:=by have:=hg.ed.len;have:=hg.ed.hi;omega
 apply F162.ac
 unfold F162.B28
 refine newK_f (all_iv (edges_one' h)) fun H1 l1 n1 o1=>?_
 unfold F162.B27 F162.B26
 refine list_ok hs fun w H2 l2 f2=>?_
 obtain ⟨p,hp⟩:∃ p:Nat→Bool,p=fun j=>s.testBit j:=⟨_,rfl⟩
 rw [bitsL_filt (by omega) hsb,← hp] at f2
 rw [← hp] at k
 obtain ⟨L,hL⟩:∃ L,L=filtB p es.length:=⟨_,rfl⟩
 rw [← hL] at f2 k
 have hLl:L.length≤es.length:=by rw [hL];exact filtB_length _ _
 have l12:=AHeap.le_trans l1 l2
 refine f2.ints.len ?_
 unfold F162.L2
 refine ⟨fun x1 x2 x5 x15 x16 x17 G=>((s:Nat):Int)=x1∧H.length=x2∧w=x15∧(L.length:Int)=x16∧H2.le G∧∃ t:Nat,x17=t∧t≤L.length∧Fresh H2.length G x5 83 1 (LU (cycN es p (L.take t))),fun _ _ _ _ _ x17 _=>L.length-x17.toNat,⟨rfl,rfl,rfl,rfl,AHeap.le_refl _,0,rfl,by omega,.inl ⟨rfl,.inl rfl⟩⟩,?_⟩
 rintro x1 x2 x5 x15 x16 x17 G ⟨rfl,rfl,rfl,rfl,hG,t,rfl,ht,hF⟩
 have lG:=AHeap.le_trans l12 hG
 have oG:=(o1.le l2).le hG
 unfold F162.B25
 refine pif_cases (fun hb=>?_) fun hb=>?_
 ·have htl:t<L.length:=by have:=of_decide_eq_true hb;omega
  obtain ⟨e,he1,he2,he3⟩:∃ e:Nat,L[t]=(e:Int)∧e<es.length∧p e=true:=by
   have hm:L[t]∈L:=List.getElem_mem htl
   obtain ⟨j,h1,h2⟩:=mem_filtB.1 (show L[t]∈filtB p es.length by rw [← hL];exact hm)
   exact ⟨j,h1,h2⟩
  have hany:=cycN_any hL htl he1 he2
  have hzl:(cycN es p (L.take t)).length≤30:=by
   unfold cycN;rw [List.length_map]
   exact Nat.le_trans (List.length_filter_le _ _) (by rw [List.length_take];omega)
  unfold F162.B24
  refine (f2.ints.le hG).rd (by omega) (by omega) (newK_f rfl fun H3 l3 n3 o3=>stK_f o3 (by simp) (by simp [Value.oneCell']) rfl fun H4 b4 o4=>?_)
  rw [Int.toNat_natCast,getD_of htl,he1] at o4
  have l4:G.le H4:=b4.le l3 (Nat.le_refl _)
  have skip:cLeadB es p e=false→∀ N2:Int→Nat→Value→Value→Int→Int→AHeap→Prop,∀ G',H4.le G'→(∀ x5' G'',H2.le G''→Fresh H2.length G'' x5' 83 1 (LU (cycN es p (L.take (t+1))))→N2 s H.length x5' w L.length ((t:Int)+1) G'')→F162.B3 K N2 s H.length x5 w L.length t G':=by
   intro hl N2 G' hG' hN
   unfold F162.B3
   rw [wrap_id (by omega) (by omega)]
   refine hN x5 G' (AHeap.le_trans hG (AHeap.le_trans l4 hG')) ?_
   rw [cycN_take htl,he1,Int.toNat_natCast,hl]
   simpa using hF.le (AHeap.le_trans l4 hG')
  have fin:∀ x5' G'',H2.le G''→Fresh H2.length G'' x5' 83 1 (LU (cycN es p (L.take (t+1))))→(((s:Nat):Int)=s∧H.length=H.length∧w=w∧(L.length:Int)=L.length∧H2.le G''∧∃ t':Nat,(t:Int)+1=t'∧t'≤L.length∧Fresh H2.length G'' x5' 83 1 (LU (cycN es p (L.take t'))))∧L.length-((t:Int)+1).toNat<L.length-(t:Int).toNat:=
   fun x5' G'' h1 h2=>⟨⟨rfl,rfl,rfl,rfl,h1,t+1,by omega,by omega,h2⟩,by omega⟩
  have bfs:cLeadB es p e=true→∀ N2:Int→Nat→Value→Value→Int→Int→AHeap→Prop,∀ G0,H4.le G0→(∀ x5' G'',H2.le G''→Fresh H2.length G'' x5' 83 1 (LU (cycN es p (L.take (t+1))))→N2 s H.length x5' w L.length ((t:Int)+1) G'')→F162.B22 K N2 s H.length x5 G.length w L.length t G0:=by
   intro hlead N2 G0 hG0 hN
   have lG0:=AHeap.le_trans lG (AHeap.le_trans l4 hG0)
   have l20:=AHeap.le_trans hG (AHeap.le_trans l4 hG0)
   have hF:=hF.le (AHeap.le_trans l4 hG0)
   have oG:=oG.le (AHeap.le_trans l4 hG0)
   unfold F162.B22
   refine ldI_own (o4.le hG0) rfl ⟨by omega,?_⟩
   rw [one_shl (by omega) (by omega),Int.toNat_natCast]
   have p64:2^e<2^64:=Nat.pow_lt_pow_right (by decide) (by omega)
   unfold F162.B21
   refine ldI_own (o4.le hG0) rfl (newK_f rfl fun H5 l5 n5 o5=>?_)
   unfold F162.L5
   refine ⟨fun x1 x2 x5' x8 x9 x15 x16 x17 G=>((s:Nat):Int)=x1∧H.length=x2∧x5=x5'∧w=x15∧(L.length:Int)=x16∧(t:Int)=x17∧G0.le G∧BitQ G0.length (fun S Q=>Ex (eAdj es p) e S Q∧(∀ y,S y=true→y<es.length)∧2*unseen S es.length+Q.length≤61) x8 x9 G,
    fun _ _ _ x8 x9 _ _ _ _=>2*unseen (fun j=>x8.toNat.testBit j) es.length+lenV x9,⟨rfl,rfl,rfl,rfl,rfl,rfl,l5,2^e,[e],rfl,p64,⟨.init fun x=>?_,fun y hy=>?_,by have:=unseen_le (fun j=>(2^e).testBit j) es.length;simp;omega⟩,(Fresh.sl (.inr ⟨_,1,Nat.le_refl _,rfl,o5,rfl⟩))⟩,?_⟩
   ·rw [Nat.testBit_two_pow];simp [eq_comm]
   ·have hy:(2^e).testBit y=true:=hy
    rw [Nat.testBit_two_pow] at hy;have:=of_decide_eq_true hy;omega
   rintro x1 x2 x5' x8 x9 x15 x16 x17 G1 ⟨rfl,rfl,rfl,rfl,rfl,rfl,hG1,z,Q,rfl,hz,⟨hE,hB,hU⟩,hQ⟩
   have lG1:=AHeap.le_trans lG0 hG1
   have oG1:=oG.le hG1
   unfold F162.B20
   refine hQ.len (by decide) (n:=Q.length) (by simp) (pif_cases (fun hb=>?_) fun hb=>?_)
   ·have hpos:0<Q.length:=by have:=of_decide_eq_true hb;omega
    cases Q with
    | nil=>simp at hpos
    | cons x Q=>
    have hxl:x<es.length:=hB x (hE.q x (by simp))
    obtain ⟨d1,d2,d3,d4,d5⟩:=hg.ed.ends es[x] (List.getElem_mem hxl)
    rw [← getD_of (d:=(0,0)) hxl] at d1 d2 d3 d4 d5
    have hmu:2*unseen (fun j=>(((z:Nat):Int).toNat).testBit j) es.length+lenV x9=2*unseen (fun j=>z.testBit j) es.length+(Q.length+1):=by
     rw [Sl_lenV hQ];simp
    have hU:2*unseen (fun j=>z.testBit j) es.length+(Q.length+1)≤61:=hU
    unfold F162.B19
    refine ld1_own oG1 rfl (hQ.ints.rd (by decide) (by simp) ?_)
    rw [show (NI (x::Q)).getD (0:Int).toNat 0=(x:Int) from rfl]
    obtain ⟨bb,oo,hk,c1,c2⟩:=(h.le lG1).idx (show (0:Int)≤x by omega) (by omega)
    simp only [Int.toNat_natCast] at c1 c2
    refine hk _ (ldI_mk c1 (ldI_mk c2 ?_))
    unfold F162.L7
    refine ⟨fun x1 x2 x5' x8 x9 x15 x16 x17 x44a x44b x45 G=>((s:Nat):Int)=x1∧H.length=x2∧x5=x5'∧w=x15∧(L.length:Int)=x16∧(t:Int)=x17∧(es.getD x (0,0)).1=x44a∧(es.getD x (0,0)).2=x44b∧G0.le G∧∃ m:Nat,x45=m∧m≤2∧BitQ G0.length (fun S Q'=>∃ R,Q'=x::R∧InX es p e x (2*unseen (fun j=>z.testBit j) es.length+(Q.length+1)) (PastE es p x m) S R) x8 x9 G,
     fun _ _ _ _ _ _ _ _ _ _ x45 _=>2-x45.toNat,⟨rfl,rfl,rfl,rfl,rfl,rfl,rfl,rfl,hG1,0,rfl,by omega,z,x::Q,rfl,hz,⟨Q,rfl,hE,hB,Nat.le_refl _,fun j ⟨_,_,m',h,_⟩=>absurd h (by omega)⟩,hQ⟩,?_⟩
    clear hQ hE hB hG1 oG1 lG1 hk c1 c2
    rintro x1 x2 x5' x8 x9' x15 x16 x17 x44a x44b x45 G1 ⟨rfl,rfl,rfl,rfl,rfl,rfl,rfl,rfl,hG1,m,rfl,hm,z',_,rfl,hz',⟨R,rfl,hX⟩,hQ⟩
    have lG1:=AHeap.le_trans lG0 hG1
    have oG1:=oG.le hG1
    unfold F162.B18
    refine pif_cases (fun hb=>?_) fun hb=>?_
    ·have hm2:m<2:=by have:=of_decide_eq_true hb;omega
     unfold F162.B17
     have hat:([.int .i64 (es.getD x (0,0)).1,.int .i64 (es.getD x (0,0)).2]:List Value)[(m:Int).toNat*1]?=some (.int .i64 (en (es.getD x (0,0)) m)):=by
      rcases (by omega:m=0∨m=1) with rfl|rfl <;> rfl
     refine bndK_iff.2 ⟨by omega,by omega,?_⟩
     unfold atK
     rw [hat]
     refine asI_mk ?_
     unfold F162.B16
     refine ldI_own oG1 rfl (ld1_own oG1 rfl (at_ok (h.le lG1) (by omega) fun q H6 l6 f6=>?_))
     have hv:0≤en (es.getD x (0,0)) m∧en (es.getD x (0,0)) m<n:=by unfold en;split <;> omega
     have h3:=hg.three hv.1 hv.2
     refine f6.len (by decide) (n:=3) (by rw [List.length_map,h3]) ?_
     have lG6:=AHeap.le_trans hG1 l6
     unfold F162.L9
     refine ⟨fun x1 x2 x5' x8 x9 x15 x16 x17 x44a x44b x45 x50 x51 x52 G=>((s:Nat):Int)=x1∧H.length=x2∧x5=x5'∧w=x15∧(L.length:Int)=x16∧(t:Int)=x17∧(es.getD x (0,0)).1=x44a∧(es.getD x (0,0)).2=x44b∧(m:Int)=x45∧q=x50∧3=x51∧G0.le G∧Sl 0 G q 2 1 (LI (atL es (en (es.getD x (0,0)) m)))∧(∀ b,bk q=some b→bk x9≠some b)∧
      ∃ y:Nat,x52=y∧y≤3∧BitQ G0.length (fun S Q'=>∃ R,Q'=x::R∧InX es p e x (2*unseen (fun j=>z.testBit j) es.length+(Q.length+1)) (PastT es p x m y) S R) x8 x9 G,
      fun _ _ _ _ _ _ _ _ _ _ _ _ _ x52 _=>3-x52.toNat,⟨rfl,rfl,rfl,rfl,rfl,rfl,rfl,rfl,rfl,rfl,rfl,lG6,f6.less (Nat.zero_le _),(fun b hb hb'=>by have:=(f6.lt hb).1;have:=(hQ.lt hb').2;omega),0,rfl,by omega,z',x::R,rfl,hz',⟨R,rfl,hX.more fun j hj=>.inl ?_⟩,hQ.le l6⟩,?_⟩
     ·rcases hj with hj|⟨_,t',h,_⟩
      ·exact hj
      ·exact absurd h (by omega)
     clear hX hQ f6 l6 lG6 oG1 lG1 hG1
     rintro x1 x2 x5' x8 x9' x15 x16 x17 x44a x44b x45 x50 x51 x52 G3 ⟨rfl,rfl,rfl,rfl,rfl,rfl,rfl,rfl,rfl,rfl,rfl,hG3,hW,hA,y,rfl,hy,z3,_,rfl,hz3,⟨R3,rfl,hX⟩,hQ⟩
     unfold F162.B15
     refine pif_cases (fun hb=>?_) fun hb=>?_
     ·have ht3:y<3:=by have:=of_decide_eq_true hb;omega
      obtain ⟨i,hi1,hi2,hi3⟩:=at_get (es:=es) (w:=en (es.getD x (0,0)) m) (t:=y) (by omega)
      have hxi:share (es.getD x (0,0)) (es.getD i (0,0)):=⟨_,on_en,hi3⟩
      have hpast:∀ j,PastT es p x m (y+1) j→PastT es p x m y j∨(p j=true∧j=i):=fun j hj=>(PastT.step hj).imp id fun ⟨h1,h2⟩=>⟨h1,by omega⟩
      have pi':p i=s.testBit i:=by rw [hp]
      unfold F162.B14
      refine hW.ints.rd (by omega) (by omega) ?_
      simp only [Int.toNat_natCast,hi1]
      unfold F162.B13
      refine has_ok hs (by omega) (asB_mk ?_)
      simp only [Int.toNat_natCast]
      rw [← pi']
      refine pif_cases (fun hpi=>?_) fun hpi=>?_
      ·refine has_ok hz3 (by omega) (asB_mk ?_)
       simp only [Int.toNat_natCast]
       refine pif_cases (fun hb=>?_) fun hb=>?_
       ·have hn:z3.testBit i=false:=by simpa using hb
        have pi:2^i<2^64:=Nat.pow_lt_pow_right (by decide) (by omega)
        unfold F162.B12
        refine ⟨by omega,?_⟩
        rw [one_shl (by omega) (by omega),Int.toNat_natCast,bits_or hz3 pi]
        unfold F162.B11
        refine hQ.pushN E_int (by decide) hG3.1 (n:=1) (ys:=[.int .i64 i]) rfl rfl (by have:=hX.mu;simp;omega) (by simp) fun v' G4 k4 ot4 nb4 f4=>?_
        unfold F162.B10
        rw [wrap_id (by omega) (by omega)]
        refine ⟨⟨rfl,rfl,rfl,rfl,rfl,rfl,rfl,rfl,rfl,rfl,rfl,k4.le hG3 (Nat.le_refl _),hW.oth ot4 hA,(fun b hb hb'=>by have:=(hW.lt hb).2;have:=nb4 b hb';omega),y+1,by omega,by omega,z3|||2^i,x::(R3++[i]),rfl,or_lt hz3 pi,⟨R3++[i],rfl,hX.push ⟨hi2,hpi,hxi⟩ hn or_bit fun j hj=>?_⟩,?_⟩,by simp;omega⟩
        ·exact (hpast j hj).imp id fun h=>h.2
        ·have:=f4.sl
         simpa using this
       ·have hn:z3.testBit i=true:=by simpa using hb
        unfold F162.B10
        rw [wrap_id (by omega) (by omega)]
        refine ⟨⟨rfl,rfl,rfl,rfl,rfl,rfl,rfl,rfl,rfl,rfl,rfl,hG3,hW,hA,y+1,by omega,by omega,z3,x::R3,rfl,hz3,⟨R3,rfl,hX.more fun j hj=>?_⟩,hQ⟩,by simp;omega⟩
        rcases hpast j hj with h|⟨h,rfl⟩
        ·exact .inl h
        ·exact .inr hn
      ·unfold F162.B10
       rw [wrap_id (by omega) (by omega)]
       refine ⟨⟨rfl,rfl,rfl,rfl,rfl,rfl,rfl,rfl,rfl,rfl,rfl,hG3,hW,hA,y+1,by omega,by omega,z3,x::R3,rfl,hz3,⟨R3,rfl,hX.more fun j hj=>?_⟩,hQ⟩,by simp;omega⟩
       rcases hpast j hj with h|⟨h,rfl⟩
       ·exact .inl h
       ·rw [hpi] at h;cases h
     ·have ht3:y=3:=by have:=of_decide_eq_false hb;omega
      subst ht3
      unfold F162.B8
      rw [wrap_id (by omega) (by omega)]
      exact ⟨⟨rfl,rfl,rfl,rfl,rfl,rfl,rfl,rfl,hG3,m+1,by omega,by omega,z3,x::R3,rfl,hz3,⟨R3,rfl,hX.more fun j hj=>.inl (by rw [← h3];exact PastT.fin hj)⟩,hQ⟩,by simp;omega⟩
    ·have hm2:m=2:=by have:=of_decide_eq_false hb;omega
     subst hm2
     unfold F162.B6
     obtain ⟨hE,hlt⟩:=hX.pop fun j h1 h2 h3=>⟨h1,h2,h3.elim (fun h=>⟨0,by omega,h⟩) fun h=>⟨1,by omega,h⟩⟩
     refine hQ.drop (i:=1) (n:=R.length+1) (by simp) (by decide) (by omega) (by omega) fun v' hv'=>?_
     have hv':Sl G0.length G1 v' 2 1 (LI (NI R)):=by simpa using hv'
     refine ⟨⟨rfl,rfl,rfl,rfl,rfl,rfl,hG1,z',R,rfl,hz',⟨hE,hX.bnd,by omega⟩,hv'⟩,?_⟩
     show 2*unseen (fun j=>(((z':Nat):Int).toNat).testBit j) es.length+lenV v'<2*unseen (fun j=>(((z:Nat):Int).toNat).testBit j) es.length+lenV x9
     rw [hmu,Sl_lenV hv']
     simpa using hlt
   ·have hq0:Q=[]:=by
     have:=of_decide_eq_false hb
     cases Q with
     | nil=>rfl
     | cons x Q=>simp at this
    subst hq0
    have hzc:z=compN es p e:=compN_of hB hE.fin
    unfold F162.B4
    refine (hF.le hG1).sl.pushN E_set (by decide) (by have:=l20.1;have:=hG1.1;omega) (n:=1) (ys:=[.int .u64 (z:Nat)]) rfl rfl (by simp;omega) (by simp) fun v' G6 k6 _ _ f6=>?_
    unfold F162.B3
    rw [wrap_id (by omega) (by omega)]
    refine hN v' G6 (k6.le (AHeap.le_trans l20 hG1) (Nat.le_refl _)) ?_
    rw [cycN_take htl,he1,Int.toNat_natCast,hlead,← hzc]
    simpa using f6
  have hFc:Sl H2.length H4 x5 83 1 (LU (cycN es p (L.take t))):=(hF.le l4).sl
  have hzb:∀ z∈cycN es p (L.take t),z<2^64:=by
   intro z hz
   unfold cycN at hz
   obtain ⟨y,_,rfl⟩:=List.mem_map.1 hz
   exact compN_lt (by omega)
  unfold F162.B23
  refine hFc.len (by decide) (n:=(cycN es p (L.take t)).length) (by simp) (pif_cases (fun hb=>?_) fun hb=>?_)
  ·refine containsU_ok (p:=fun z=>z.testBit e) hFc (by omega) (fun z hz=>has_cl (hzb z hz) o4) fun G7 l7=>asB_mk ?_
   rw [hany]
   cases hl:cLeadB es p e with
   | true=>exact pif_f rfl (bfs hl _ G7 l7 fin)
   | false=>exact pif_t rfl (skip hl _ G7 l7 fin)
  ·have hz0:cycN es p (L.take t)=[]:=by
    have:=of_decide_eq_false hb
    exact List.length_eq_zero_iff.1 (by omega)
   rw [hz0] at hany
   refine bfs ?_ _ H4 (AHeap.le_refl _) fin
   simpa using hany
 ·have hge:t=L.length:=by have:=of_decide_eq_false hb;omega
  subst hge
  rw [List.take_length] at hF
  unfold F162.B1
  exact k _ _ lG (hF.less l12.1)
end Go.Proofs
namespace Go.Proofs

section
variable {α:Type} {d:α} {L L' L'':List α} {a b a' b' i j k:Nat}
structure Cmp (c:α→α→Int):Prop where
 tr:∀ x y z,¬ c y x<0→¬ c z y<0→¬ c z x<0
 asy:∀ x y,c x y<0→¬ c y x<0
abbrev LeC (c:α→α→Int) (x y:α):Prop:=¬ c y x<0
variable {c:α→α→Int}
theorem Cmp.lt (h:Cmp c) {x y:α} (hx:c x y<0):LeC c x y:=h.asy _ _ hx
end
section
variable {α:Type} {le:α→α→Prop}
theorem sorted_same (anti:∀ a b,le a b→le b a→a=b):∀ {A B:List α},A.Pairwise le→B.Pairwise le→A.Perm B→A=B
 | [],B,_,_,h=>(List.nil_perm.1 h).symm▸rfl
 | a::A,[],_,_,h=>absurd h.length_eq (by simp)
 | a::A,b::B,hA,hB,h=>by
  obtain ⟨a1,a2⟩:=List.pairwise_cons.1 hA
  obtain ⟨b1,b2⟩:=List.pairwise_cons.1 hB
  have hab:a=b:=by
   apply Classical.byContradiction
   intro hne
   have h1:a∈B:=by
    rcases List.mem_cons.1 (h.mem_iff.1 (List.mem_cons_self (a:=a) (l:=A))) with h|h
    ·exact absurd h hne
    ·exact h
   have h2:b∈A:=by
    rcases List.mem_cons.1 (h.mem_iff.2 (List.mem_cons_self (a:=b) (l:=B))) with h|h
    ·exact absurd h.symm hne
    ·exact h
   exact hne (anti _ _ (a1 _ h2) (b1 _ h1))
  subst hab
  rw [sorted_same anti a2 b2 (List.Perm.cons_inv h)]
end
end Go.Proofs
namespace Go.Proofs
open Go.Abs

variable {H G:AHeap} {K:Value→AHeap→Prop}

end Go.Proofs
namespace Go.Proofs
open Go.Abs

variable {B H G G':AHeap} {b N:Nat} {L S M:List Nat} {R:List Value} {cmp:Value} {c:Nat→Nat→Int} {dom:Nat→Prop} {K:Value→AHeap→Prop}

theorem wr {x:Int} {i:Nat} (h:x=i) (hi:i≤1000000000000):IntKind.i64.wrap x=(i:Int):=by rw [h];exact wrap_id (by omega) (by omega)
structure Kb (b:Nat) (H G:AHeap):Prop where
 len:H.length≤G.length
 old:∀ q o,q≠b→H[q]?=some (some o)→G[q]?=some (some o)
theorem Kb.refl:Kb b H H:=⟨Nat.le_refl _,fun _ _ _ h=>h⟩
theorem Kb.trans (h:Kb b H G) (k:Kb b G G'):Kb b H G':=⟨Nat.le_trans h.len k.len,fun q o hq ho=>k.old q o hq (h.old q o hq ho)⟩
theorem Kb.of_le (h:H.le G):Kb b H G:=⟨h.1,fun q o _ ho=>h.2 q o ho⟩
theorem _root_.Go.Abs.But.kb (h:But b H G):Kb b H G:=⟨Nat.le_of_eq h.len.symm,fun q o hq ho=>by rw [h.same q hq];exact ho⟩
theorem Kb.le (h:Kb b H G) (h0:B.le H) (hb:B.length≤b):B.le G:=⟨Nat.le_trans h0.1 h.len,fun q o ho=>h.old q o (by have:=lt_of_get ho;omega) (h0.2 q o ho)⟩
end Go.Proofs
namespace Go.Proofs
open Go.Abs

variable {B H G G':AHeap} {b N:Nat} {L S M:List Nat} {R:List Value} {cmp:Value} {c:Nat→Nat→Int} {dom:Nat→Prop} {K:Value→AHeap→Prop}

theorem nilP_mk {b o:Nat} {K:Value→Prop} (h:K (.pointer (some ⟨b,o,none⟩))):nilK (.pointer (some ⟨b,o,none⟩)) K:=h
end Go.Proofs
namespace Go.Proofs
open Go.Abs

variable {H:AHeap} {v:Value}

end Go.Proofs
namespace Go.Abs
section
variable {T:TT} {H:AHeap} {n:Nat} {t:TypeId} {cs:List Value}
def isU8 (o:Option TI):Bool:=match o with|some ⟨.int .u8,_,_,_⟩=>true|_=>false
theorem AT_u8 (h:isU8 (T t)=true) (a:AT T H n t cs):∃ x,cs=[.int .u8 x]∧0≤x∧x≤255:=by
 cases n with
 | zero=>exact a.elim
 | succ n=>
  unfold AT at a
  split at a
  ·rename_i ti hti
   rw [hti] at h
   obtain ⟨d,_,_,_⟩:=ti
   cases d <;> first|(simp [isU8] at h;done)|skip
   rename_i k
   cases k <;> first|(simp [isU8] at h;done)|skip
   obtain ⟨x,rfl,hx⟩:=a
   have:=Go.bounds_u8 hx
   exact ⟨x,rfl,this.1,this.2⟩
  ·exact a.elim
theorem chunks_u8 {e:TypeId} (he:isU8 (T e)=true) (hz:sz T e=1):∀ (len:Nat) (xs:List Value),Chunked T (AT T H n) (List.replicate len e) xs→∃ l:List Int,l.length=len∧xs=l.map (Value.int .u8)∧∀ x∈l,0≤x∧x≤255
 | 0,xs,h=>⟨[],rfl,h,by simp⟩
 | len+1,xs,h=>by
  rw [List.replicate_succ] at h
  obtain ⟨h1,h2,h3⟩:=h
  rw [hz] at h1 h2 h3
  obtain ⟨x,hx,hr⟩:=AT_u8 he h2
  obtain ⟨l,hl,he,hb⟩:=chunks_u8 he hz len _ h3
  refine ⟨x::l,by simp [hl],?_,?_⟩
  ·cases xs with
   | nil=>simp at h1
   | cons y ys=>simp at hx he ⊢;exact ⟨hx,he⟩
  ·intro y hy
   rcases List.mem_cons.1 hy with rfl|hy
   ·exact hr
   ·exact hb y hy
end
end Go.Abs
namespace Go.Proofs
open Go.Abs

variable {H G Hb:AHeap} {v u f w:Value} {l m:List Int} {K:Value→AHeap→Prop} {bs:Nat}

def Byts (H:AHeap) (v:Value) (l:List Int):Prop:=(∀ x∈l,0≤x∧x≤255)∧((v=.slice none 0 0∧l=[])∨∃ a c,v=.slice (some a) l.length c∧(l=[]∨(a.spot=none∧∀ (i:Nat) x,l[i]?=some x→H.cell a.block (a.off+i)=some (.int .u8 x))))
theorem av_bytes (h:AV T0 H 22 v):∃ l,Byts H v l∧l.length≤9223372036854775807:=by
 obtain ⟨n,cs,a,rfl⟩:=AV_flat h (by kernel_rfl)
 rcases AT_slice (e:=5) (by kernel_rfl) a with rfl|rfl|⟨m,b,len,xs,rfl,h2,h3,h4⟩
 ·exact ⟨[],⟨by simp,.inl ⟨rfl,rfl⟩⟩,by decide⟩
 ·exact ⟨[],⟨by simp,.inr ⟨_,_,rfl,.inl rfl⟩⟩,by decide⟩
 ·obtain ⟨l,rfl,rfl,hb⟩:=chunks_u8 (by kernel_rfl) (by kernel_rfl) len xs h4
  exact ⟨l,⟨hb,.inr ⟨_,_,rfl,.inr ⟨rfl,fun i x hx=>by rw [cell_own h3];simp [hx]⟩⟩⟩,by simpa [maxLen] using h2⟩
theorem Byts.le (h:Byts H v l) (hl:H.le G):Byts G v l:=by
 refine ⟨h.1,?_⟩
 rcases h.2 with h|⟨a,c,h1,h2|⟨h2,h3⟩⟩
 ·exact .inl h
 ·exact .inr ⟨a,c,h1,.inl h2⟩
 ·exact .inr ⟨a,c,h1,.inr ⟨h2,fun i x hx=>AHeap.cell_le hl (h3 i x hx)⟩⟩
theorem Byts.one (h:Byts H v l):v.oneCell'=true:=by
 rcases h.2 with ⟨rfl,_⟩|⟨a,c,rfl,_⟩ <;> rfl
theorem Byts.len (h:Byts H v l) {K:Nat→Prop} (k:K l.length):lenK v K:=by
 rcases h.2 with ⟨rfl,rfl⟩|⟨a,c,rfl,_⟩
 ·exact k
 ·exact k
theorem Byts.rd (h:Byts H v l) {i:Int} (h0:0≤i) (h1:i<l.length) {K:Int→Prop} (k:∀ x,0≤x→x≤255→K x):idxK v i 1 (fun b o=>ldI .u8 H b o K):=by
 rcases h.2 with ⟨rfl,rfl⟩|⟨a,c,rfl,h2|⟨h2,h3⟩⟩
 ·simp at h1;omega
 ·subst h2;simp at h1;omega
 ·obtain ⟨b,o,sp⟩:=a
  simp only at h2 h3
  subst h2
  have hi:i.toNat<l.length:=by omega
  have hx:=h3 i.toNat l[i.toNat] (List.getElem?_eq_getElem hi)
  have hr:=h.1 l[i.toNat] (List.getElem_mem hi)
  exact ⟨h0,h1,ldI_mk (by rw [Nat.mul_one];exact hx) (k _ hr.1 hr.2)⟩
def Src (Hb:AHeap) (bs:Nat) (G:AHeap):Prop:=Hb.le G∧Hb.length≤bs∧∃ cv l a h,Byts Hb cv l∧l.length≤4096∧Own G bs 140 [cv,.int .i64 a,.int .u64 h]∧0≤a∧a≤l.length
theorem Src.le (h:Src Hb bs H) (hl:H.le G):Src Hb bs G:=by
 obtain ⟨h1,h2,cv,l,a,x,h3,h4,h5,h6,h7⟩:=h
 exact ⟨AHeap.le_trans h1 hl,h2,cv,l,a,x,h3,h4,h5.le hl,h6,h7⟩
theorem Src.put {a' h':Int} (hs:Hb.le H) (h2:Hb.length≤bs) {cv:Value} (hb:Byts Hb cv l) (h4:l.length≤4096) (b2:But bs H G) (o2:Own G bs 140 [cv,.int .i64 a',.int .u64 h']) (h6:0≤a') (h7:a'≤l.length):Src Hb bs G:=
 ⟨b2.le hs h2,h2,cv,l,a',h',hb,h4,o2,h6,h7⟩
theorem l01Next_ok {n:Int} (hs:Src Hb bs H) (k:∀ r G,Kb bs H G→Src Hb bs G→0≤r→(1≤n→r<n)→(n<1→r=0)→K (.int .i64 r) G):AC Tryz.prog T0 88 [.pointer (some ⟨bs,0,none⟩),.int .i64 n] H K:=by
 obtain ⟨h1,h2,cv,l,a,x,hB,h4,ho,h6,h7⟩:=id hs
 apply F88.ac
 unfold F88.B9 F88.B8
 refine pif_cases (fun hb=>?_) fun hb=>?_
 ·have:=of_decide_eq_true hb
  unfold F88.B7
  exact k 0 H .refl hs (by omega) (fun h=>by omega) fun _=>rfl
 have hn:1≤n:=by have:=of_decide_eq_false hb;omega
 have hn0:n≠0:=by omega
 unfold F88.B6
 refine nilP_mk (asP_mk (ldI_own ho rfl (nilP_mk (asP_mk (stK_1 ho (by simp) rfl fun G1 b1 o1=>?_)))))
 obtain ⟨h',hh'⟩:∃ h',h'=IntKind.u64.wrap (IntKind.u64.wrap (x*6364136223846793005)+1442695040888963407):=⟨_,rfl⟩
 rw [← hh'] at o1
 have o1:Own G1 bs 140 [cv,.int .i64 a,.int .u64 h']:=o1
 have s1:Src Hb bs G1:=Src.put h1 h2 hB h4 b1 o1 h6 h7
 have hBG:=hB.le s1.1
 unfold F88.B5
 refine nilP_mk (asP_mk (ldI_own o1 rfl ⟨by decide,?_⟩))
 have hx:∃ y:Nat,y<2^24∧IntKind.i64.wrap (IntKind.u64.wrap (BitVec.ofInt 64 (Int.fdiv h' (2^(min (Int.toNat 33) 64)))&&&BitVec.ofInt 64 16777215).toNat)=(y:Int):=by
  have hlt:(BitVec.ofInt 64 (Int.fdiv h' (2^(min (Int.toNat 33) 64)))&&&BitVec.ofInt 64 16777215).toNat<2^24:=by
   rw [BitVec.toNat_and]
   exact Nat.lt_of_le_of_lt Nat.and_le_right (by decide)
  refine ⟨_,hlt,?_⟩
  rw [u64_nat (by omega),wrap_id (by omega) (by omega)]
 obtain ⟨y,hy,hyx⟩:=hx
 have fin:∀ (x5:Int) G2,0≤x5→Kb bs H G2→Src Hb bs G2→F88.B1 K n x5 G2:=fun x5 G2 h0 kb s2=>by
  unfold F88.B1
  refine pif_t (by simpa using hn0) ?_
  refine k _ G2 kb s2 ?_ (fun _=>?_) fun h=>by omega
  ·exact Int.tmod_nonneg _ h0
  ·exact Int.tmod_lt_of_pos _ (by omega)
 unfold F88.B4
 refine nilP_mk (asP_mk (ldI_own o1 rfl (nilP_mk (asP_mk (ld1_own o1 rfl (hBG.len (pif_cases (fun hc=>?_) fun hc=>?_)))))))
 ·have hal:a<l.length:=of_decide_eq_true hc
  unfold F88.B3
  refine nilP_mk (asP_mk (ld1_own o1 rfl (nilP_mk (asP_mk (ldI_own o1 rfl (hBG.rd h6 hal fun z z0 z1=>?_))))))
  unfold F88.B2
  refine nilP_mk (asP_mk (ldI_own o1 rfl (nilP_mk (asP_mk (stK_1 o1 (by simp) rfl fun G2 b2 o2=>?_)))))
  rw [wrap_id (x:=a+1) (by omega) (by omega)] at o2
  refine fin _ G2 ?_ (b1.kb.trans b2.kb) (Src.put s1.1 h2 hB h4 b2 o2 (by omega) (by omega))
  show 0≤IntKind.i64.wrap (IntKind.i64.wrap _+IntKind.i64.wrap z)
  rw [hyx,wrap_id (x:=z) (by omega) (by omega),wrap_id (by omega) (by omega)];omega
 ·refine fin _ G1 ?_ b1.kb s1
  rw [hyx];omega
theorem l01Pick_ok (hs:Src Hb bs H) (hl:Ints H w l) (h0:0<l.length) (hll:l.length≤1000000) (hw:∀ x∈l,-4611686018427387904≤x∧x≤4611686018427387904) (hdis:∀ G,Kb bs H G→Ints G w l) (k:∀ r G,Kb bs H G→Src Hb bs G→r∈l→K (.int .i64 r) G):AC Tryz.prog T0 159 [.pointer (some ⟨bs,0,none⟩),w] H K:=by
 apply F159.ac
 unfold F159.B2 F159.B1
 refine hl.len (l01Next_ok hs fun r G kb s2 r0 r1 _=>asI_mk ((hdis G kb).rd r0 (r1 (by omega)) ?_))
 have hr:=r1 (by omega)
 refine k _ G kb s2 ?_
 rw [getD_of (by omega)];exact List.getElem_mem _
end Go.Proofs
namespace Go.Proofs
open Go.Abs

variable {H G:AHeap} {v u f:Value} {l m c D:List Int} {es fs:List (Int × Int)} {K:Value→AHeap→Prop} {A A':Nat→Prop} {B:Nat} {ls ms:List (List Int)}

theorem other_ok {e:Int × Int} {x:Int} (h1:0≤e.1∧e.1≤1000000) (h2:0≤e.2∧e.2≤1000000) (h3:0≤x∧x≤1000000) (k:∀ G,H.le G→K (.int .i64 (e.1+e.2-x)) G):AC Tryz.prog T0 168 [ve e,.int .i64 x] H K:=by
 apply F168.ac
 unfold F168.B2
 refine newK_f rfl fun H1 l1 n1 o1=>?_
 unfold F168.B1
 have k:=k _ l1
 refine ldI_own o1 rfl (ldI_own o1 rfl ?_)
 rw [wrap_id (x:=e.1+e.2) (by omega) (by omega),wrap_id (by omega) (by omega)]
 exact k
theorem on_oth {e:Int × Int} {x:Int} (h:on e x=true):e.1+e.2-x=e.1∨e.1+e.2-x=e.2:=by
 unfold on at h
 simp only [Bool.or_eq_true,beq_iff_eq] at h
 omega
end Go.Proofs
namespace Go.Proofs
open Go.Abs

variable {H:AHeap} {v u f:Value} {l m c:List Int} {es fs:List (Int × Int)} {K:Value→AHeap→Prop}

theorem ints_cells (h:Ints H v l):cellsAt H v 1 l.length (LI l):=by
 refine ⟨by simp,?_⟩
 rcases h with ⟨rfl,rfl⟩|⟨a,c,rfl,h⟩
 ·exact ⟨none,0,rfl,.inl rfl⟩
 ·refine ⟨some a,c,rfl,?_⟩
  rcases h with rfl|⟨h1,h2⟩
  ·exact .inl rfl
  ·refine .inr ⟨a.block,a.off,?_,fun i u hu=>?_⟩
   ·cases a;cases h1;rfl
   ·rw [List.getElem?_map] at hu
    cases hx:l[i]? with
    | none=>rw [hx] at hu;cases hu
    | some x=>rw [hx] at hu;cases hu;exact h2 i x hx
theorem own_app (h:Ints H v l) (hl:l.length≤4294967296) (k:∀ v' G,H.le G→Fresh H.length G v' 2 1 (LI l)→K v' G) :
 newK H [] 2 (fun b1 H2=>apK T0 2 H2 (.slice (some ⟨b1,0,none⟩) 0 (0+1)) v K):=by
 refine newK_f rfl fun H2 l2 n2 o2=>?_
 have f2:Fresh H.length H2 (.slice (some ⟨H.length,0,none⟩) 0 (0+1)) 2 1 []:=.inr ⟨_,0,Nat.le_refl _,rfl,o2,rfl⟩
 refine f2.sl.app E_int (by decide) l2.1 (ints_cells (h.le l2)) (by simpa using hl) (fun h0=>?_) fun v' G k3 _ _ f3=>?_
 ·exact k _ _ l2 (by rw [h0];exact f2)
 ·exact k _ _ (k3.le l2 (Nat.le_refl _)) f3
theorem l01Own_ok (h:Ints H v l) (hl:l.length≤4294967296) (k:∀ v' G,H.le G→Fresh H.length G v' 2 1 (LI l)→K v' G):AC Tryz.prog T0 89 [v] H K:=by
 apply F89.ac
 unfold F89.B2 F89.B1
 exact own_app h hl k
end Go.Proofs
namespace Go.Proofs
open Go.Abs

variable {H G:AHeap} {v u f:Value} {l m c D:List Int} {es fs:List (Int × Int)} {K:Value→AHeap→Prop} {A A':Nat→Prop} {B:Nat} {ls ms:List (List Int)}

end Go.Proofs
namespace Go.Proofs
open Go.Abs

def restTo (es:List (Int × Int)) (p:Nat→Bool) (k:Nat):List (Int × Int):=((List.range k).filter fun j=>!p j).map fun j=>es.getD j (0,0)
def restL (es:List (Int × Int)) (p:Nat→Bool):List (Int × Int):=restTo es p es.length
theorem restTo_succ (es:List (Int × Int)) (p:Nat→Bool) (k:Nat):restTo es p (k+1)=restTo es p k++if p k then [] else [es.getD k (0,0)]:=by
 unfold restTo
 rw [List.range_succ,List.filter_append,List.map_append]
 congr 1
 cases h:p k <;> simp [h]
theorem mem_restL {es:List (Int × Int)} {p:Nat→Bool} {e:Int × Int}:e∈restL es p↔∃ j,j<es.length∧p j=false∧e=es.getD j (0,0):=by
 unfold restL restTo
 rw [List.mem_map]
 constructor
 ·rintro ⟨j,hj,rfl⟩
  rw [List.mem_filter,List.mem_range] at hj
  exact ⟨j,hj.1,by simpa using hj.2,rfl⟩
 ·rintro ⟨j,h1,h2,rfl⟩
  exact ⟨j,by rw [List.mem_filter,List.mem_range];exact ⟨h1,by simpa using h2⟩,rfl⟩
theorem restTo_none (es:List (Int × Int)) {p:Nat→Bool} (h:∀ j,p j=false):∀ k,k≤es.length→restTo es p k=es.take k
 | 0,_=>by simp [restTo]
 | k+1,hk=>by
  rw [restTo_succ,restTo_none es h k (by omega),h k,List.take_succ_eq_append_getElem (show k<es.length by omega),getD_of (show k<es.length by omega)];rfl
theorem restL_none (es:List (Int × Int)) {p:Nat→Bool} (h:∀ j,p j=false):restL es p=es:=by
 unfold restL;rw [restTo_none es h _ (Nat.le_refl _),List.take_length]
noncomputable def vLeadB (fs:List (Int × Int)) (i:Nat):Bool:=@decide (∀ b,b<i→¬ Rch (vAdj fs) b i) (Classical.propDecidable _)
theorem vLeadB_iff {fs:List (Int × Int)} {i:Nat}:vLeadB fs i=true↔∀ b,b<i→¬ Rch (vAdj fs) b i:=by unfold vLeadB;simp
noncomputable def sideL (fs:List (Int × Int)) (n v:Nat):List Int:=filtB (rchB (vAdj fs) v) n
noncomputable def sidesTo (fs:List (Int × Int)) (n k:Nat):List (List Int):=((List.range k).filter (vLeadB fs)).map (sideL fs n)
noncomputable def sidesL (fs:List (Int × Int)) (n:Nat):List (List Int):=sidesTo fs n n
theorem sidesTo_succ (fs:List (Int × Int)) (n k:Nat):sidesTo fs n (k+1)=sidesTo fs n k++if vLeadB fs k then [sideL fs n k] else []:=by
 unfold sidesTo
 rw [List.range_succ,List.filter_append,List.map_append]
 congr 1
 cases h:vLeadB fs k <;> simp [h]
theorem sidesTo_length (fs:List (Int × Int)) (n k:Nat):(sidesTo fs n k).length≤k:=by
 unfold sidesTo;rw [List.length_map]
 exact Nat.le_trans (List.length_filter_le _ _) (by simp)
theorem mem_sideL {fs:List (Int × Int)} {n v:Nat} {x:Int}:x∈sideL fs n v↔∃ j:Nat,x=j∧j<n∧Rch (vAdj fs) v j:=by
 unfold sideL;rw [mem_filtB]
 exact ⟨fun ⟨j,h1,h2,h3⟩=>⟨j,h1,h2,rchB_iff.1 h3⟩,fun ⟨j,h1,h2,h3⟩=>⟨j,h1,h2,rchB_iff.2 h3⟩⟩
theorem lead_eq {fs:List (Int × Int)} {a b:Nat} (ha:vLeadB fs a=true) (hb:vLeadB fs b=true) (h:Rch (vAdj fs) a b):a=b:=by
 rcases Nat.lt_trichotomy a b with h1|h1|h1
 ·exact absurd h (vLeadB_iff.1 hb a h1)
 ·exact h1
 ·exact absurd (h.symm vAdj_symm) (vLeadB_iff.1 ha b h1)
theorem lead_exists {fs:List (Int × Int)} (i:Nat):∃ j,j≤i∧vLeadB fs j=true∧Rch (vAdj fs) j i:=by
 induction i using Nat.strongRecOn with
 | _ i ih=>
  cases hl:vLeadB fs i with
  | true=>exact ⟨i,Nat.le_refl _,hl,.refl⟩
  | false=>
   have:∃ j,j<i∧Rch (vAdj fs) j i:=by
    apply Classical.byContradiction
    intro h
    have:vLeadB fs i=true:=vLeadB_iff.2 fun b hb hr=>h ⟨b,hb,hr⟩
    rw [hl] at this;cases this
   obtain ⟨j,h1,h2⟩:=this
   obtain ⟨j',g1,g2,g3⟩:=ih j h1
   exact ⟨j',by omega,g2,g3.trans h2⟩
theorem getD_set_ne {l:List Int} {i j:Nat} {x:Int} (h:i≠j):(l.set i x).getD j 0=l.getD j 0:=by simp [List.getD,List.getElem?_set,h]
theorem getD_set_self {l:List Int} {i:Nat} {x:Int} (h:i<l.length):(l.set i x).getD i 0=x:=by simp [List.getD,h]
end Go.Proofs
namespace Go.Proofs
open Go.Abs

def cmb (n:Nat):Nat→Nat→List (List Int)
 | 0,_=>[[]]
 | k+1,f=>((List.range n).filter fun i=>decide (f≤i)).flatMap fun i=>(cmb n k (i+1)).map ((i:Int)::·)
def cmbTo (n k f i:Nat):List (List Int):=((List.range i).filter fun i=>decide (f≤i)).flatMap fun i=>(cmb n k (i+1)).map ((i:Int)::·)
theorem cmb_zero (n f:Nat):cmb n 0 f=[[]]:=rfl
theorem cmb_succ (n k f:Nat):cmb n (k+1) f=cmbTo n k f n:=rfl
theorem cmbTo_succ {n k f i:Nat} (h:f≤i):cmbTo n k f (i+1)=cmbTo n k f i++(cmb n k (i+1)).map ((i:Int)::·):=by
 unfold cmbTo
 rw [List.range_succ,List.filter_append,List.flatMap_append]
 congr 1
 simp [h]
theorem cmbTo_start {n k f i:Nat} (h:i≤f):cmbTo n k f i=[]:=by
 unfold cmbTo
 have:(List.range i).filter (fun i=>decide (f≤i))=[]:=by
  rw [List.filter_eq_nil_iff]
  intro a ha
  rw [List.mem_range] at ha
  simp;omega
 rw [this];rfl
theorem cmb_none {n:Nat}:∀ {k f:Nat},n<f+k→0<k→cmb n k f=[]
 | 0,_,_,h=>absurd h (by omega)
 | k+1,f,h,_=>by
  rw [cmb_succ,cmbTo,List.flatMap_eq_nil_iff]
  intro i hi
  rw [List.mem_filter,List.mem_range] at hi
  have hfi:=of_decide_eq_true hi.2
  rw [cmb_none (k:=k) (f:=i+1) (by omega) (by omega)];rfl
theorem cmbTo_end {n k f i:Nat} (hi:i≤n) (hf:f≤i) (h:n<i+k+1):cmbTo n k f n=cmbTo n k f i:=by
 obtain ⟨d,rfl⟩:∃ d,n=i+d:=⟨n-i,by omega⟩
 have key:∀ e,e≤d→cmbTo (i+d) k f (i+e)=cmbTo (i+d) k f i:=by
  intro e
  induction e with
  | zero=>intro _;rfl
  | succ e ih=>
   intro he
   rw [← Nat.add_assoc,cmbTo_succ (by omega),ih (by omega),cmb_none (by omega) (by omega)];simp
 exact key d (Nat.le_refl _)
theorem isS_nil (n:Int):IsS [] n:=fun i hi=>absurd hi (by simp)
theorem isS_cons {x n:Int} {l:List Int} (h0:0≤x) (h1:x<n) (h:IsS l n) (hx:∀ y∈l,x<y):IsS (x::l) n:=by
 intro i hi
 cases i with
 | zero=>exact ⟨h0,by show x≤n-1;omega,fun h=>absurd h (by omega)⟩
 | succ i=>
  have hi':i<l.length:=by simpa using hi
  obtain ⟨a,b,c⟩:=h i hi'
  refine ⟨a,b,fun _=>?_⟩
  cases i with
  | zero=>
   show x<l.getD 0 0
   rw [getD_of hi'];exact hx _ (List.getElem_mem hi')
  | succ i=>exact c (by omega)
theorem mem_cmb {n:Nat}:∀ {k f:Nat} {l:List Int},l∈cmb n k f→l.length=k∧IsS l n∧∀ x∈l,(f:Int)≤x
 | 0,f,l,h=>by
  rw [cmb_zero,List.mem_singleton] at h;subst h
  exact ⟨rfl,isS_nil _,fun x hx=>by cases hx⟩
 | k+1,f,l,h=>by
  rw [cmb_succ,cmbTo,List.mem_flatMap] at h
  obtain ⟨i,hi,hl⟩:=h
  rw [List.mem_filter,List.mem_range] at hi
  have hfi:=of_decide_eq_true hi.2
  rw [List.mem_map] at hl
  obtain ⟨m,hm,rfl⟩:=hl
  obtain ⟨g1,g2,g3⟩:=mem_cmb hm
  refine ⟨by simp [g1],isS_cons (by omega) (by omega) g2 fun y hy=>by have:=g3 y hy;omega,fun x hx=>?_⟩
  rcases List.mem_cons.1 hx with rfl|hx
  ·omega
  ·have:=g3 x hx;omega
theorem IsS.bits {l:List Int} {n:Nat} (h:IsS l n) (hn:n≤64):bitsL (setN l)=l:=by
 rw [bitsL_filt hn fun j hj=>bitB_lt h hj]
 exact h.filt.symm
def upTo {α:Type} (q:α→Bool):List α→List α
 | []=>[]
 | x::xs=>if q x then [x] else x::upTo q xs
theorem upTo_app {α:Type} {q:α→Bool}:∀ {a b:List α},a.any q=false→upTo q (a++b)=a++upTo q b
 | [],b,_=>rfl
 | x::a,b,h=>by
  rw [List.any_cons,Bool.or_eq_false_iff] at h
  rw [List.cons_append,upTo,h.1]
  simp [upTo_app h.2]
theorem upTo_stop {α:Type} {q:α→Bool}:∀ {a b:List α},a.any q=true→upTo q (a++b)=upTo q a
 | x::a,b,h=>by
  rw [List.cons_append,upTo,upTo]
  cases hx:q x with
  | true=>rfl
  | false=>
   rw [List.any_cons,hx,Bool.false_or] at h
   simp [upTo_stop h]
theorem upTo_all {α:Type} {q:α→Bool} {a:List α} (h:a.any q=false):upTo q a=a:=by
 have:=upTo_app (b:=[]) h
 simpa [upTo] using this
def anyD {α:Type} (q:List α→Bool):List α→List α→Bool
 | _,[]=>false
 | d,x::xs=>q (d++[x])||anyD q (d++[x]) xs
def upToD {α:Type} (q:List α→Bool):List α→List α→List α
 | _,[]=>[]
 | d,x::xs=>if q (d++[x]) then [x] else x::upToD q (d++[x]) xs
theorem anyD_app {α:Type} {q:List α→Bool}:∀ {d a b:List α},anyD q d (a++b)=(anyD q d a||anyD q (d++a) b)
 | d,[],b=>by simp [anyD]
 | d,x::a,b=>by
  rw [List.cons_append,anyD,anyD,anyD_app (d:=d++[x]),Bool.or_assoc];simp
theorem upToD_app {α:Type} {q:List α→Bool}:∀ {d a b:List α},anyD q d a=false→upToD q d (a++b)=a++upToD q (d++a) b
 | d,[],b,_=>by simp
 | d,x::a,b,h=>by
  rw [anyD,Bool.or_eq_false_iff] at h
  rw [List.cons_append,upToD,h.1,upToD_app h.2]
  simp
theorem upToD_stop {α:Type} {q:List α→Bool}:∀ {d a b:List α},anyD q d a=true→upToD q d (a++b)=upToD q d a
 | d,x::a,b,h=>by
  rw [List.cons_append,upToD,upToD]
  cases hx:q (d++[x]) with
  | true=>rfl
  | false=>
   rw [anyD,hx,Bool.false_or] at h
   simp [upToD_stop h]
theorem upToD_all {α:Type} {q:List α→Bool} {d a:List α} (h:anyD q d a=false):upToD q d a=a:=by
 have:=upToD_app (b:=[]) h
 simpa [upToD] using this
theorem setN_snoc (l:List Int) (i:Nat):setN (l++[(i:Int)])=setN l|||2^i:=by
 unfold setN;rw [List.foldl_append];rfl
end Go.Proofs
namespace Go.Proofs
open Go.Abs

def fv (s:Nat):Nat→Nat
 | 0=>0
 | n+1=>if fv s n<n then fv s n else if s.testBit n then n+1 else n
theorem fv_spec (s:Nat):∀ n,fv s n≤n∧(∀ j,j<fv s n→s.testBit j=true)∧(fv s n<n→s.testBit (fv s n)=false)
 | 0=>⟨Nat.le_refl _,fun j hj=>by simp [fv] at hj,fun h=>by simp [fv] at h⟩
 | n+1=>by
  obtain ⟨h1,h2,h3⟩:=fv_spec s n
  unfold fv
  by_cases h:fv s n<n
  ·rw [if_pos h];exact ⟨by omega,h2,fun _=>h3 h⟩
  ·have he:fv s n=n:=by omega
   rw [if_neg h]
   rw [he] at h2
   by_cases hb:s.testBit n=true
   ·rw [if_pos hb]
    refine ⟨Nat.le_refl _,fun j hj=>?_,fun h=>absurd h (by omega)⟩
    by_cases e:j=n
    ·subst e;exact hb
    ·exact h2 j (by omega)
   ·rw [if_neg hb]
    exact ⟨by omega,h2,fun _=>by simpa using hb⟩
theorem fv_le (s n:Nat):fv s n≤n:=(fv_spec s n).1
theorem fv_below {s n j:Nat} (h:j<fv s n):s.testBit j=true:=(fv_spec s n).2.1 j h
theorem fv_at {s n:Nat} (h:fv s n<n):s.testBit (fv s n)=false:=(fv_spec s n).2.2 h
theorem fv_eq {s n v:Nat} (h1:v≤n) (h2:∀ j,j<v→s.testBit j=true) (h3:v<n→s.testBit v=false):fv s n=v:=by
 rcases Nat.lt_trichotomy (fv s n) v with h|h|h
 ·have:=h2 _ h
  rw [fv_at (by omega)] at this;cases this
 ·exact h
 ·have:=fv_below h
  have:=fv_le s n
  rw [h3 (by omega)] at *;simp_all
def othN (es:List (Int × Int)) (e:Int) (v:Nat):Nat:=((es.getD e.toNat (0,0)).1+(es.getD e.toNat (0,0)).2-v).toNat
def matL (es:List (Int × Int)) (n:Nat):Nat→Nat→List (List Int)
 | 0,s=>if fv s n=n then [[]] else []
 | k+1,s=>if fv s n=n then [[]] else (atL es (fv s n)).flatMap fun e=>if s.testBit (othN es e (fv s n)) then [] else (matL es n k (s|||2^fv s n|||2^othN es e (fv s n))).map (e::·)
def matTo (es:List (Int × Int)) (n k s t:Nat):List (List Int):=((atL es (fv s n)).take t).flatMap fun e=>if s.testBit (othN es e (fv s n)) then [] else (matL es n k (s|||2^fv s n|||2^othN es e (fv s n))).map (e::·)
theorem matL_end {es:List (Int × Int)} {n s:Nat} (h:fv s n=n):∀ k,matL es n k s=[[]]
 | 0=>by unfold matL;rw [if_pos h]
 | k+1=>by unfold matL;rw [if_pos h]
theorem matL_to {es:List (Int × Int)} {n k s:Nat} (h:fv s n<n):matL es n (k+1) s=matTo es n k s (atL es (fv s n)).length:=by
 unfold matTo;rw [List.take_length,matL,if_neg (by omega)]
theorem matTo_succ {es:List (Int × Int)} {n k s t:Nat} (h:t<(atL es (fv s n)).length):matTo es n k s (t+1)=matTo es n k s t++if s.testBit (othN es ((atL es (fv s n)).getD t 0) (fv s n)) then [] else (matL es n k (s|||2^fv s n|||2^othN es ((atL es (fv s n)).getD t 0) (fv s n))).map ((atL es (fv s n)).getD t 0::·):=by
 unfold matTo
 rw [List.take_succ_eq_append_getElem h,List.flatMap_append,getD_of h]
 simp
def left (s n:Nat):Nat:=unseen (fun j=>s.testBit j) n
theorem or_insB (s y:Nat):(fun j=>(s|||2^y).testBit j)=insB (fun j=>s.testBit j) y:=by
 funext j;simp [insB,Nat.testBit_or,Nat.testBit_two_pow]
theorem left_two {s n v w:Nat} (hv:v<n) (hw:w<n) (h1:s.testBit v=false) (h2:s.testBit w=false) (hne:v≠w):left (s|||2^v|||2^w) n+2=left s n:=by
 unfold left
 rw [or_insB,or_insB]
 have a:=unseen_ins (S:=fun j=>s.testBit j) hv h1
 have b:=unseen_ins (S:=insB (fun j=>s.testBit j) v) hw (by simp [insB,h2,hne])
 omega
section
variable {n:Int} {es:List (Int × Int)}
theorem srt_le (h:Srt es) {i j:Nat} (hij:i≤j) (hj:j<es.length):(es.getD i (0,0)).1≤(es.getD j (0,0)).1:=by
  induction j with
  | zero => have : i = 0 := by omega
            subst this;exact Int.le_refl _
  | succ j ih=>
    by_cases e:i=j+1
    · subst e;exact Int.le_refl _
    · have a:=ih (by omega) (by omega)
      have b:=h j hj
      unfold ltE at b
      omega
structure FirstE (n:Int) (es:List (Int × Int)) (s i w:Nat):Prop where
 lt:i<es.length
 fst:(es.getD i (0,0)).1=fv s n.toNat
 snd:(es.getD i (0,0)).2=w
 wn:w<n.toNat
 vw:fv s n.toNat<w
theorem firstE (hg:IsG n es) {s i w:Nat} (hi:i<es.length) (ho:on (es.getD i (0,0)) (fv s n.toNat)=true) (hw:(w:Int)=(es.getD i (0,0)).1+(es.getD i (0,0)).2-fv s n.toNat) (hs:s.testBit w=false):FirstE n es s i w:=by
 obtain ⟨d1,d2,d3,d4,d5⟩:=hg.ed.ends es[i] (List.getElem_mem hi)
 have up:=hg.up es[i] (List.getElem_mem hi)
 rw [← getD_of (d:=(0,0)) hi] at d1 d2 d3 d4 d5 up
 unfold on at ho
 simp only [Bool.or_eq_true,beq_iff_eq] at ho
 have nlt:¬ w<fv s n.toNat:=fun h=>by rw [fv_below h] at hs;cases hs
 refine ⟨hi,?_,?_,?_,?_⟩ <;> omega
theorem isS_asc {l:List Int} {m:Nat} (ha:Asc l) (hr:∀ x∈l,0≤x∧x<m):IsS l m:=by
 intro i hi
 have:=hr _ (List.getElem_mem hi)
 rw [getD_of hi]
 refine ⟨this.1,by omega,fun h0=>?_⟩
 unfold Asc at ha
 rw [List.pairwise_iff_getElem] at ha
 rw [getD_of (by omega)]
 exact ha _ _ (by omega) hi (by omega)
theorem mem_matL (hg:IsG n es):∀ {k s:Nat} {l:List Int},l∈matL es n.toNat k s→Asc l∧∀ x∈l,0≤x∧x<es.length∧(fv s n.toNat:Int)≤(es.getD x.toNat (0,0)).1
 | 0,s,l,h=>by
  unfold matL at h
  split at h
  ·rw [List.mem_singleton] at h;subst h
   exact ⟨List.Pairwise.nil,fun x hx=>by cases hx⟩
  ·cases h
 | k+1,s,l,h=>by
  by_cases he:fv s n.toNat=n.toNat
  ·rw [matL_end he,List.mem_singleton] at h;subst h
   exact ⟨List.Pairwise.nil,fun x hx=>by cases hx⟩
  ·unfold matL at h
   rw [if_neg he,List.mem_flatMap] at h
   obtain ⟨e,hm,hl⟩:=h
   obtain ⟨i,rfl,hi,ho⟩:=mem_atL.1 hm
   by_cases hb:s.testBit (othN es (i:Int) (fv s n.toNat))=true
   ·rw [if_pos hb] at hl;cases hl
   ·rw [if_neg hb,List.mem_map] at hl
    obtain ⟨m,hm',rfl⟩:=hl
    have hlt:fv s n.toNat<n.toNat:=by have:=fv_le s n.toNat;omega
    have hw:(othN es (i:Int) (fv s n.toNat):Int)=(es.getD i (0,0)).1+(es.getD i (0,0)).2-fv s n.toNat:=by
     obtain ⟨d1,d2,d3,d4,d5⟩:=hg.ed.ends es[i] (List.getElem_mem hi)
     rw [← getD_of (d:=(0,0)) hi] at d1 d2 d3 d4 d5
     unfold on at ho
     simp only [Bool.or_eq_true,beq_iff_eq] at ho
     unfold othN;rw [Int.toNat_natCast];omega
    have fe:=firstE hg hi ho hw (by simpa using hb)
    obtain ⟨ha,hr⟩:=mem_matL hg hm'
    have hfv:fv s n.toNat<fv (s|||2^fv s n.toNat|||2^othN es (i:Int) (fv s n.toNat)) n.toNat:=by
     rcases Nat.lt_or_ge (fv s n.toNat) (fv (s|||2^fv s n.toNat|||2^othN es (i:Int) (fv s n.toNat)) n.toNat) with h|h
     ·exact h
     ·have:=fv_at (s:=s|||2^fv s n.toNat|||2^othN es (i:Int) (fv s n.toNat)) (n:=n.toNat) (by omega)
      rw [Nat.testBit_or,Nat.testBit_or,Bool.or_eq_false_iff,Bool.or_eq_false_iff,Nat.testBit_two_pow] at this
      have h2:fv (s|||2^fv s n.toNat|||2^othN es (i:Int) (fv s n.toNat)) n.toNat≠fv s n.toNat:=fun e=>by rw [e] at this;simp at this
      have:=this.1.1
      rw [fv_below (s:=s) (n:=n.toNat) (by omega)] at this;cases this
    refine ⟨List.pairwise_cons.2 ⟨fun y hy=>?_,ha⟩,fun x hx=>?_⟩
    ·obtain ⟨y0,y1,y2⟩:=hr y hy
     rcases Int.lt_or_le (i:Int) y with h|h
     ·exact h
     ·have:=srt_le hg.srt (i:=y.toNat) (j:=i) (by omega) hi
      have:=fe.fst
      omega
    ·rcases List.mem_cons.1 hx with rfl|hx
     ·have:=fe.fst
      rw [Int.toNat_natCast];omega
     ·obtain ⟨y0,y1,y2⟩:=hr x hx
      omega
theorem matL_isS (hg:IsG n es) {k s:Nat} {l:List Int} (h:l∈matL es n.toNat k s):IsS l es.length:=by
 obtain ⟨h1,h2⟩:=mem_matL hg h
 exact isS_asc h1 fun x hx=>⟨(h2 x hx).1,(h2 x hx).2.1⟩
end
end Go.Proofs
namespace Go.Proofs
open Go.Abs

variable {H G:AHeap} {K:Value→AHeap→Prop}

def dbj:List Int:=[0,1,56,2,57,49,28,3,61,58,42,50,38,29,17,4,62,47,59,36,45,43,51,22,53,39,33,30,24,18,12,5,63,55,48,27,60,41,37,16,46,35,44,21,52,32,23,11,54,26,40,15,34,20,31,10,25,14,19,9,13,8,7,6]
def Tab (H:AHeap):Prop:=∃ e own,H[0]?=some (some (.row (dbj.map (Value.int .u8)) e own))
theorem Tab.le (h:Tab H) (hl:H.le G):Tab G:=by
 obtain ⟨e,o,h⟩:=h;exact ⟨e,o,hl.2 _ _ h⟩
theorem low_bit {x v:Nat} (hx:x<2^64) (hv:v<64) (h1:x.testBit v=true) (h0:∀ j,j<v→x.testBit j=false):x&&&(2^64-x)=2^v:=by
 have hm:x%2^(v+1)=2^v:=by
  apply Nat.eq_of_testBit_eq
  intro j
  rw [Nat.testBit_mod_two_pow,Nat.testBit_two_pow]
  by_cases e:v=j
  ·subst e;simp [h1]
  ·by_cases hj:j<v
   ·simp [h0 j hj,e]
   ·simp [e];intro h;omega
 have hd:=Nat.div_add_mod x (2^(v+1))
 rw [hm] at hd
 obtain ⟨q,hq⟩:∃ q,q=x/2^(v+1):=⟨_,rfl⟩
 rw [← hq] at hd
 have p0:0<2^v:=Nat.two_pow_pos v
 have p1:2^(v+1)=2*2^v:=by rw [Nat.pow_succ,Nat.mul_comm]
 have e1:2^64-x=2^64-((2^(v+1)*q+(2^v-1))+1):=by omega
 apply Nat.eq_of_testBit_eq
 intro j
 rw [Nat.testBit_and,e1,Nat.testBit_two_pow_sub_succ (by omega),Nat.testBit_two_pow]
 rw [← hd,Nat.testBit_two_pow_mul_add _ (by omega),Nat.testBit_two_pow_mul_add _ (by omega)]
 by_cases hj:j<v+1
 ·rw [if_pos hj,if_pos hj,Nat.testBit_two_pow,Nat.testBit_two_pow_sub_one]
  by_cases e:v=j
  ·subst e;simp [hv]
  ·simp [e]
 ·rw [if_neg hj,if_neg hj]
  have:v≠j:=by omega
  simp [this]
  intro a _;exact a
theorem dbj_ok:∀ v:Nat,v<64→((2^v*285870213051353865)%2^64/2^58<64∧dbj.getD ((2^v*285870213051353865)%2^64/2^58) 0=(v:Int)):=by decide +kernel
theorem tz_ok {x v:Nat} (hT:Tab H) (hx:x<2^64) (hv:v<64) (h1:x.testBit v=true) (h0:∀ j,j<v→x.testBit j=false) (k:K (.int .i64 (v:Nat)) H) :
 AC Tryz.prog T0 167 [.int .u64 (x:Nat)] H K:=by
 have hx0:0<x:=by
  rcases Nat.eq_zero_or_pos x with h|h
  ·subst h;simp at h1
  ·exact h
 have hand:IntKind.u64.wrap ((BitVec.ofInt 64 ((x:Nat):Int)&&&BitVec.ofInt 64 (IntKind.u64.wrap (0-((x:Nat):Int)))).toNat:Int)=((2^v:Nat):Int):=by
  have:IntKind.u64.wrap (0-((x:Nat):Int))=((2^64-x:Nat):Int):=by rw [IntKind.wrap_u64];omega
  rw [this,bits_and hx (by omega),low_bit hx hv h1 h0]
 obtain ⟨g1,g2⟩:=dbj_ok v hv
 have hidx:Int.fdiv (IntKind.u64.wrap (((2^v:Nat):Int)*285870213051353865)) (2^(min (Int.toNat 58) 64))=(((2^v*285870213051353865)%2^64/2^58:Nat):Int):=by
  rw [show (285870213051353865:Int)=((285870213051353865:Nat):Int) from rfl,← Int.natCast_mul,IntKind.wrap_u64,show (18446744073709551616:Int)=((2^64:Nat):Int) from by decide,← Int.natCast_emod,shr_nat]
  rfl
 apply F167.ac
 unfold F167.B4 F167.B3
 refine pif_f (by simp;omega) ?_
 unfold F167.B1
 rw [hand,hidx]
 refine ⟨by decide,bndK_iff.2 ⟨by omega,by omega,?_⟩⟩
 obtain ⟨e,own,hT⟩:=hT
 refine ldI_mk ((cell_own hT _).trans (?_:_=some (Value.int .u8 (v:Int)))) ?_
 ·unfold offAt
  rw [Nat.zero_add,Nat.mul_one,Int.toNat_natCast,List.getElem?_map,List.getElem?_eq_getElem (show _<dbj.length from g1)]
  have:=g2
  rw [getD_of (show _<dbj.length from g1)] at this
  rw [this];rfl
 ·rw [wrap_id (by omega) (by omega)];exact k
end Go.Proofs
namespace Go.Proofs
open Go.Abs

variable {H G:AHeap}

structure Fr (P:Nat→Prop) (G:AHeap) (P':Nat→Prop) (G':AHeap):Prop where
 len:G.length≤G'.length
 own:∀ b,P' b→P b∨G.length≤b
 old:∀ (b:Nat) (o:AObj),¬ P b→G[b]?=some (some o)→G'[b]?=some (some o)
theorem Fr.le {P:Nat→Prop} {G G':AHeap} (h:G.le G'):Fr P G P G':=⟨h.1,fun b hb=>.inl hb,fun b o _ ho=>h.2 b o ho⟩
theorem Fr.refl {P:Nat→Prop} {G:AHeap}:Fr P G P G:=Fr.le (AHeap.le_refl _)
theorem Fr.trans {P P1 P2:Nat→Prop} {G G1 G2:AHeap} (h:Fr P G P1 G1) (k:Fr P1 G1 P2 G2):Fr P G P2 G2:=by
 refine ⟨Nat.le_trans h.len k.len,fun b hb=>?_,fun b o hn ho=>k.old b o (fun h1=>?_) (h.old b o hn ho)⟩
 ·rcases k.own b hb with h1|h1
  ·exact h.own b h1
  ·exact .inr (Nat.le_trans h.len h1)
 ·rcases h.own b h1 with h2|h2
  ·exact hn h2
  ·have:=lt_of_get ho;omega
theorem Fr.base {P P':Nat→Prop} {H0 G G':AHeap} (h:Fr P G P' G') (h0:H0.le G) (hp:∀ b,P b→H0.length≤b):H0.le G'∧∀ b,P' b→H0.length≤b:=by
 refine ⟨⟨Nat.le_trans h0.1 h.len,fun b o ho=>h.old b o (fun hb=>?_) (h0.2 b o ho)⟩,fun b hb=>?_⟩
 ·have:=hp b hb;have:=lt_of_get ho;omega
 ·rcases h.own b hb with h1|h1
  ·exact hp b h1
  ·exact Nat.le_trans h0.1 h1
theorem Fr.sl {P P':Nat→Prop} {G G':AHeap} {m:Nat} {v:Value} {t:TypeId} {z:Nat} {cs:List Value} (h:Fr P G P' G') (hs:Sl m G v t z cs) (hn:∀ b,bk v=some b→¬ P b):Sl m G' v t z cs:=by
 rcases hs with hs|⟨b,n,pre,post,h1,rfl,h3,h4⟩
 ·exact .inl hs
 ·exact .inr ⟨b,n,pre,post,h1,rfl,h.old b _ (hn b rfl) h3,h4⟩
abbrev mgrowV (a b c:Nat):Value:=.func (.func 166) ⟨[]⟩ ⟨[.pointer (some ⟨a,0,none⟩),.pointer (some ⟨b,0,none⟩),.pointer (some ⟨c,0,none⟩)]⟩
theorem full_iff {s n:Nat} (hs:s<2^n):s=2^n-1↔fv s n=n:=by
 constructor
 ·intro h
  subst h
  exact fv_eq (Nat.le_refl _) (fun j hj=>by rw [Nat.testBit_two_pow_sub_one];simpa using hj) fun h=>absurd h (by omega)
 ·intro h
  apply Nat.eq_of_testBit_eq
  intro j
  rw [Nat.testBit_two_pow_sub_one]
  by_cases hj:j<n
  ·rw [fv_below (n:=n) (by omega)];simp [hj]
  ·rw [Nat.testBit_lt_two_pow (Nat.lt_of_lt_of_le hs (Nat.pow_le_pow_right (by decide) (by omega)))];simp [hj]
theorem left_pos {s n v:Nat} (hv:v<n) (h:s.testBit v=false):0<left s n:=by
 have:=unseen_ins (S:=fun j=>s.testBit j) hv h
 unfold left;omega
theorem left_le (s n:Nat):left s n≤n:=unseen_le _ n
theorem mgrow_ok {n:Int} {v doV:Value} {es:List (Int × Int)} (hg:IsG n es) {cg c3 c5:Nat} {tg t3 t5:TypeId} {H0 B1:AHeap} {Pv0:Nat→Prop} {J:List (List Int)→(Nat→Prop)→AHeap→Prop} {q:List (List Int)→Bool} {T:List (List Int)} {N:Nat}
 (he:Edges H0 v es) (h01:H0.le B1) (hP0:∀ b,Pv0 b→H0.length≤b) (hTab:Tab H0) (og:Own B1 cg tg [.int .i64 n,v]) (o3:Own B1 c3 t3 [doV]) (o5:Own B1 c5 t5 [mgrowV cg c3 c5]) (ng:¬ Pv0 cg) (n3:¬ Pv0 c3) (n5:¬ Pv0 c5)
 (hle:∀ done Pv G G2,J done Pv G→G.le G2→J done Pv G2) (hltP:∀ done Pv G b,J done Pv G→Pv b→b<G.length)
 (hdo:∀ done Pv l G,J done Pv G→Fr Pv0 B1 Pv G→l∈T→done.length<N→∀ K:Value→AHeap→Prop,(∀ G' Pv',J (done++[l]) Pv' G'→Fr Pv G Pv' G'→K (.bool (q (done++[l]))) G')→callV Tryz.prog T0 doV [.int .u64 (setN l:Nat)] G K) :
 ∀ (k s:Nat) (pre:List Int) (done:List (List Int)) (Pv:Nat→Prop) (G:AHeap) (K:Value→AHeap→Prop),s<2^n.toNat→left s n.toNat≤2*k→(∀ x∈pre,0≤x∧x<64)→(∀ l∈matL es n.toNat k s,pre++l∈T)→done.length+(matL es n.toNat k s).length≤N→J done Pv G→Fr Pv0 B1 Pv G→
  (∀ G' Pv',J (done++upToD q done ((matL es n.toNat k s).map (pre++·))) Pv' G'→Fr Pv G Pv' G'→K (.bool (anyD q done ((matL es n.toNat k s).map (pre++·)))) G')→
  AC Tryz.prog T0 166 [.int .u64 (setN pre:Nat),.int .u64 (s:Nat),.pointer (some ⟨cg,0,none⟩),.pointer (some ⟨c3,0,none⟩),.pointer (some ⟨c5,0,none⟩)] G K:=by
 have n0:=hg.ed.lo;have n1:=hg.ed.hi
 have h30:es.length≤30:=by have:=hg.ed.len;omega
 have hn64:2^n.toNat≤2^20:=Nat.pow_le_pow_right (by decide) (by omega)
 have p20:2^20<2^64:=by decide
 have hw1:∀ K:Int→Prop,K ((2^n.toNat-1:Nat):Int)→K (IntKind.u64.wrap ((IntKind.u64.wrap (1*2^(min n.toNat 64)))-1)):=by
  intro K k
  have e1:IntKind.u64.wrap (1*2^(min n.toNat 64))=((2^n.toNat:Nat):Int):=one_shl (i:=n) (by omega) (by omega)
  have e2:IntKind.u64.wrap (((2^n.toNat:Nat):Int)-1)=((2^n.toNat-1:Nat):Int):=by
   have:=Nat.two_pow_pos n.toNat
   rw [show ((2^n.toNat:Nat):Int)-1=((2^n.toNat-1:Nat):Int) by omega,u64_nat (by omega)]
  rw [e1,e2];exact k
 have full:∀ (k s:Nat) (pre:List Int) (done:List (List Int)) (Pv:Nat→Prop) (G:AHeap) (K:Value→AHeap→Prop),fv s n.toNat=n.toNat→(∀ l∈matL es n.toNat k s,pre++l∈T)→done.length+(matL es n.toNat k s).length≤N→J done Pv G→Fr Pv0 B1 Pv G→
  (∀ G' Pv',J (done++upToD q done ((matL es n.toNat k s).map (pre++·))) Pv' G'→Fr Pv G Pv' G'→K (.bool (anyD q done ((matL es n.toNat k s).map (pre++·)))) G')→F166.B11 K (setN pre:Nat) (.pointer (some ⟨c3,0,none⟩)) G:=by
  intro k s pre done Pv G K hfu hT hN hJ hF kk
  rw [matL_end hfu] at hT hN kk
  have hp:pre∈T:=by have:=hT [] (by simp);simpa using this
  unfold F166.B11
  refine asP_mk (ld1_own (hF.old _ _ n3 o3) rfl (hdo done Pv pre G hJ hF hp (by simp at hN;omega) _ fun G' Pv' hJ' hF'=>asB_mk ?_))
  have kk:=kk G' Pv'
  have e1:upToD q done ([[]].map (pre++·))=[pre]:=by simp [upToD]
  have e2:anyD q done ([[]].map (pre++·))=q (done++[pre]):=by simp [anyD]
  rw [e1,e2] at kk
  exact kk hJ' hF'
 intro k
 induction k with
 | zero=>
  intro s pre done Pv G K hs hl hpre hT hN hJ hF kk
  have hfu:fv s n.toNat=n.toNat:=by
   have:=fv_le s n.toNat
   rcases Nat.lt_or_ge (fv s n.toNat) n.toNat with h|h
   ·have:=left_pos h (fv_at h);omega
   ·omega
  apply F166.ac
  unfold F166.B13 F166.B12
  refine asP_mk (ldI_own (hF.old _ _ ng og) rfl ⟨by omega,?_⟩)
  refine hw1 (fun z=>pif (((s:Nat):Int)==z) _ _) ?_
  rw [← (full_iff hs).2 hfu]
  exact pif_t (by simp) (full 0 s pre done Pv G K hfu hT hN hJ hF kk)
 | succ k ih=>
  intro s pre done Pv G K hs hl hpre hT hN hJ hF kk
  apply F166.ac
  unfold F166.B13 F166.B12
  have ogG:=hF.old _ _ ng og
  refine asP_mk (ldI_own ogG rfl ⟨by omega,?_⟩)
  refine hw1 (fun z=>pif (((s:Nat):Int)==z) _ _) ?_
  by_cases hfu:fv s n.toNat=n.toNat
  ·rw [← (full_iff hs).2 hfu]
   exact pif_t (by simp) (full (k+1) s pre done Pv G K hfu hT hN hJ hF kk)
  have hne:s≠2^n.toNat-1:=fun e=>hfu ((full_iff hs).1 e)
  refine pif_f (by rw [beq_eq_false_iff_ne];omega) ?_
  have hlt:fv s n.toNat<n.toNat:=by have:=fv_le s n.toNat;omega
  have hs64:s<2^64:=by omega
  obtain ⟨w,hw⟩:∃ w,w=fv s n.toNat:=⟨_,rfl⟩
  have hwn:w<n.toNat:=by omega
  have hwb:s.testBit w=false:=by rw [hw];exact fv_at hlt
  have hlow:∀ j,j<w→s.testBit j=true:=fun j hj=>fv_below (n:=n.toNat) (by omega)
  obtain ⟨h0G,hP0G⟩:=hF.base h01 hP0
  unfold F166.B10
  rw [show (18446744073709551615:Int)=((2^64-1:Nat):Int) from by decide,bits_xor (by decide) hs64]
  refine tz_ok (hTab.le h0G) (Nat.xor_lt_two_pow (by decide) hs64) (v:=w) (by omega) ?_ (fun j hj=>?_) (asI_mk ?_)
  ·rw [Nat.testBit_xor,Nat.testBit_two_pow_sub_one,hwb];simp;omega
  ·rw [Nat.testBit_xor,Nat.testBit_two_pow_sub_one,hlow j hj];simp;omega
  unfold F166.B9
  refine asP_mk (ldI_own ogG rfl (ld1_own ogG rfl (at_ok (he.le h0G) (by omega) fun a GA lA hA=>?_)))
  have h3:=hg.three (v:=(w:Int)) (by omega) (by omega)
  refine hA.len (by decide) (n:=3) (by rw [List.length_map,h3]) ?_
  have hto:matL es n.toNat (k+1) s=matTo es n.toNat k s 3:=by rw [matL_to hlt,← hw,h3]
  rw [hto] at hT hN kk
  have hJA:=hle _ _ _ _ hJ lA
  have hap:∀ b,bk a=some b→¬ Pv b:=fun b hb hp=>by have:=(hA.lt hb).1;have:=hltP _ _ _ _ hJ hp;omega
  unfold F166.L2
  refine ⟨fun x0 x1 x2 x4 x8 x26 x27 x28 G'=>((setN pre:Nat):Int)=x0∧((s:Nat):Int)=x1∧.pointer (some ⟨cg,0,none⟩)=x2∧.pointer (some ⟨c5,0,none⟩)=x4∧((w:Nat):Int)=x8∧a=x26∧3=x27∧∃ (t:Nat) (Pv':Nat→Prop),x28=t∧t≤3∧Fr Pv GA Pv' G'∧J (done++(matTo es n.toNat k s t).map (pre++·)) Pv' G'∧anyD q done ((matTo es n.toNat k s t).map (pre++·))=false,
   fun _ _ _ _ _ _ _ x28 _=>3-x28.toNat,⟨rfl,rfl,rfl,rfl,rfl,rfl,rfl,0,Pv,rfl,by omega,.refl,by simpa [matTo] using hJA,by simp [matTo,anyD]⟩,?_⟩
  rintro x0 x1 x2 x4 x8 x26 x27 x28 G1 ⟨rfl,rfl,rfl,rfl,rfl,rfl,rfl,t,Pv1,rfl,ht,hF1,hJ1,hno⟩
  have hFB:Fr Pv0 B1 Pv1 G1:=hF.trans ((Fr.le lA).trans hF1)
  obtain ⟨h0G1,hP1⟩:=hFB.base h01 hP0
  unfold F166.B8
  refine pif_cases (fun hb=>?_) fun hb=>?_
  ·have ht3:t<3:=by have:=of_decide_eq_true hb;omega
   obtain ⟨i,hi1,hi2,hi3⟩:=at_get (es:=es) (w:=(w:Int)) (t:=t) (by omega)
   obtain ⟨d1,d2,d3,d4,d5⟩:=hg.ed.ends es[i] (List.getElem_mem hi2)
   rw [← getD_of (d:=(0,0)) hi2] at d1 d2 d3 d4 d5
   obtain ⟨y,hy⟩:∃ y:Nat,(es.getD i (0,0)).1+(es.getD i (0,0)).2-(w:Int)=y:=⟨((es.getD i (0,0)).1+(es.getD i (0,0)).2-(w:Int)).toNat,by rcases on_oth hi3 with e|e <;> omega⟩
   have hyn:y<n.toNat:=by rcases on_oth hi3 with e|e <;> omega
   have hyo:othN es (i:Int) w=y:=by unfold othN;rw [Int.toNat_natCast];omega
   have hyw:y≠w:=by
    unfold on at hi3
    simp only [Bool.or_eq_true,beq_iff_eq] at hi3
    omega
   have hsucc:=matTo_succ (es:=es) (n:=n.toNat) (k:=k) (s:=s) (t:=t) (by rw [← hw];omega)
   rw [← hw,hi1,hyo] at hsucc
   have haG1:=hF1.sl hA hap
   unfold F166.B7
   refine haG1.ints.rd (by omega) (by omega) ?_
   rw [Int.toNat_natCast,hi1]
   unfold F166.B6
   obtain ⟨bb,oo,hk,c1,c2⟩:=(he.le h0G1).idx (show (0:Int)≤i by omega) (by omega)
   simp only [Int.toNat_natCast] at c1 c2
   refine asP_mk (ld1_own (hFB.old _ _ ng og) rfl (hk _ (ldI_mk c1 (ldI_mk c2 (other_ok (e:=es.getD i (0,0)) (by omega) (by omega) (by omega) fun G2 l2=>asI_mk ?_)))))
   rw [hy]
   have hF2:Fr Pv GA Pv1 G2:=hF1.trans (Fr.le l2)
   have hJ2:=hle _ _ _ _ hJ1 l2
   have hFB2:Fr Pv0 B1 Pv1 G2:=hFB.trans (Fr.le l2)
   unfold F166.B5
   refine has_ok hs64 (by omega) (asB_mk ?_)
   rw [Int.toNat_natCast]
   refine pif_cases (fun hb=>?_) fun hb=>?_
   ·have hyb:s.testBit y=false:=by simpa using hb
    rw [if_neg (by rw [hyb];decide)] at hsucc
    have pi:2^i<2^64:=Nat.pow_lt_pow_right (by decide) (by omega)
    have pw:2^w<2^n.toNat:=Nat.pow_lt_pow_right (by decide) hwn
    have py:2^y<2^n.toNat:=Nat.pow_lt_pow_right (by decide) hyn
    have hs':s|||2^w|||2^y<2^n.toNat:=Nat.or_lt_two_pow (Nat.or_lt_two_pow hs pw) py
    refine asP_mk (ld1_own (hFB2.old _ _ n5 o5) rfl ⟨by omega,by omega,by omega,callV_mk ?_⟩)
    have sh:∀ j:Nat,j<64→IntKind.u64.wrap (1*2^(min (Int.toNat (j:Int)) 64))=((2^j:Nat):Int):=fun j hj=>by rw [one_shl (by omega) (by omega),Int.toNat_natCast]
    have sh':IntKind.u64.wrap (1*2^(min y 64))=((2^y:Nat):Int):=sh y (by omega)
    rw [sh i (by omega),sh w (by omega),sh',bits_or (setN_lt fun x hx=>(hpre x hx).2) pi,bits_or hs64 (by omega),bits_or (or_lt hs64 (by omega)) (by omega),← setN_snoc]
    have hmap:((matL es n.toNat k (s|||2^w|||2^y)).map ((i:Int)::·)).map (pre++·)=(matL es n.toNat k (s|||2^w|||2^y)).map ((pre++[(i:Int)])++·):=by
     rw [List.map_map];exact List.map_congr_left fun l _=>by simp
    have hsm:(matTo es n.toNat k s (t+1)).map (pre++·)=(matTo es n.toNat k s t).map (pre++·)++(matL es n.toNat k (s|||2^w|||2^y)).map ((pre++[(i:Int)])++·):=by
     rw [hsucc,List.map_append,hmap]
    have hall:∃ rest,matTo es n.toNat k s 3=matTo es n.toNat k s (t+1)++rest:=by
     unfold matTo
     rw [show (atL es (fv s n.toNat)).take 3=(atL es (fv s n.toNat)).take (t+1)++((atL es (fv s n.toNat)).take 3).drop (t+1) by
      conv=>lhs;rw [← List.take_append_drop (t+1) ((atL es (fv s n.toNat)).take 3)]
      rw [List.take_take,Nat.min_eq_left (by omega)],List.flatMap_append]
     exact ⟨_,rfl⟩
    obtain ⟨rest,hr⟩:=hall
    refine ih (s|||2^w|||2^y) (pre++[(i:Int)]) _ Pv1 G2 _ hs' (by have:=left_two hwn hyn hwb hyb (fun e=>hyw e.symm);omega) (fun x hx=>?_) (fun l hl'=>?_) ?_ hJ2 hFB2 fun G3 Pv3 hJ3 hF3=>asB_mk ?_
    ·rcases List.mem_append.1 hx with hx|hx
     ·exact hpre x hx
     ·rw [List.mem_singleton] at hx;omega
    ·have:(i:Int)::l∈matTo es n.toNat k s 3:=by
      rw [hr,hsucc]
      exact List.mem_append_left _ (List.mem_append_right _ (List.mem_map.2 ⟨l,hl',rfl⟩))
     have:=hT _ this
     simpa using this
    ·have:=congrArg List.length hr
     rw [hsucc] at this
     simp only [List.length_append,List.length_map] at this ⊢
     omega
    ·refine pif_cases (fun hq=>?_) fun hq=>?_
     ·unfold F166.B4
      have kk:=kk G3 Pv3
      have hany:anyD q done ((matTo es n.toNat k s (t+1)).map (pre++·))=true:=by rw [hsm,anyD_app,hq];simp
      rw [hr,List.map_append,anyD_app,hany,Bool.true_or,upToD_stop hany,hsm,upToD_app hno,← List.append_assoc] at kk
      exact kk hJ3 ((Fr.le lA).trans (hF2.trans hF3))
     ·unfold F166.B3
      rw [wrap_id (by omega) (by omega)]
      rw [upToD_all hq] at hJ3
      refine ⟨⟨rfl,rfl,rfl,rfl,rfl,rfl,rfl,t+1,Pv3,by omega,by omega,hF2.trans hF3,?_,?_⟩,by simp;omega⟩
      ·rw [hsm,← List.append_assoc];exact hJ3
      ·rw [hsm,anyD_app,hno,hq];rfl
   ·have hyb:s.testBit y=true:=by simpa using hb
    rw [if_pos hyb,List.append_nil] at hsucc
    unfold F166.B3
    rw [wrap_id (by omega) (by omega)]
    refine ⟨⟨rfl,rfl,rfl,rfl,rfl,rfl,rfl,t+1,Pv1,by omega,by omega,hF2,?_,?_⟩,by simp;omega⟩
    ·rw [hsucc];exact hJ2
    ·rw [hsucc];exact hno
  ·have ht3:t=3:=by have:=of_decide_eq_false hb;omega
   subst ht3
   unfold F166.B1
   have kk:=kk G1 Pv1
   rw [hno,upToD_all hno] at kk
   exact kk hJ1 ((Fr.le lA).trans hF1)
def mats (n:Int) (es:List (Int × Int)):List (List Int):=matL es n.toNat 10 0
theorem matchings_ok {n:Int} {v doV:Value} {es:List (Int × Int)} (hg:IsG n es) {H0:AHeap} {Pv0:Nat→Prop} {J:List (List Int)→(Nat→Prop)→AHeap→Prop} {q:List (List Int)→Bool} {K:Value→AHeap→Prop}
 (he:Edges H0 v es) (h0:H0.le H) (hP0:∀ b,Pv0 b→H0.length≤b) (hTab:Tab H0) (hd:doV.oneCell'=true) (hJ:J [] Pv0 H)
 (hle:∀ done Pv G G2,J done Pv G→G.le G2→J done Pv G2) (hltP:∀ done Pv G b,J done Pv G→Pv b→b<G.length)
 (hdo:∀ done Pv l G,J done Pv G→Fr Pv0 H Pv G→l∈mats n es→done.length<(mats n es).length→∀ K:Value→AHeap→Prop,(∀ G' Pv',J (done++[l]) Pv' G'→Fr Pv G Pv' G'→K (.bool (q (done++[l]))) G')→callV Tryz.prog T0 doV [.int .u64 (setN l:Nat)] G K)
 (k:∀ G Pv,J (upToD q [] (mats n es)) Pv G→Fr Pv0 H Pv G→K (.bool (anyD q [] (mats n es))) G) :
 AC Tryz.prog T0 109 [.agg ⟨[.int .i64 n,v]⟩,doV] H K:=by
 have n0:=hg.ed.lo;have n1:=hg.ed.hi
 apply F109.ac
 unfold F109.B4
 refine newK_f (all_iv (edges_one' he)) fun H1 l1 n1' o1=>pif_t hd (newK_f (by simpa using hd) fun H2 l2 n2 o2=>?_)
 unfold F109.B3
 refine newK_f rfl fun H3 l3 n3 o3=>?_
 unfold F109.B2
 refine stK_f o3 (by simp) (by simp [Value.oneCell']) rfl fun H4 b4 o4=>?_
 have l34:H2.le H4:=b4.le l3 (Nat.le_refl _)
 have l4:H.le H4:=AHeap.le_trans (AHeap.le_trans l1 l2) l34
 have hlt:=fun b hb=>hltP _ _ _ b hJ hb
 unfold F109.B1
 refine ld1_own o4 rfl (callV_mk ?_)
 have e:(mats n es).map ([]++·)=mats n es:=by simp
 refine mgrow_ok hg (B1:=H4) (Pv0:=Pv0) (J:=J) (q:=q) (T:=mats n es) (N:=(mats n es).length) (doV:=doV) he (AHeap.le_trans h0 l4) hP0 hTab (o1.le (AHeap.le_trans l2 l34)) (o2.le l34) o4 (fun h=>by have:=hlt _ h;omega) (fun h=>by have:=hlt _ h;omega) (fun h=>by have:=hlt _ h;omega) hle hltP
  (fun done Pv l G hJ hF hl hn K hK=>hdo done Pv l G hJ ((Fr.le l4).trans hF) hl hn K hK) 10 0 [] [] Pv0 H4 _ (Nat.two_pow_pos _) (by have:=left_le 0 n.toNat;omega) (fun x hx=>by cases hx) (fun l hl=>by rw [List.nil_append];exact hl) (by simp [mats]) (hle _ _ _ _ hJ l4) .refl fun G Pv hG hF=>asB_mk ?_
 rw [show matL es n.toNat 10 0=mats n es from rfl,e] at hG ⊢
 exact k G Pv (by simpa using hG) ((Fr.le l4).trans hF)
end Go.Proofs
namespace Go.Proofs
open Go.Abs

variable {H G:AHeap} {v u f:Value} {l m c D:List Int} {es fs:List (Int × Int)} {K:Value→AHeap→Prop} {A A':Nat→Prop} {B:Nat} {ls ms:List (List Int)}

end Go.Proofs
namespace Go.Proofs
open Go.Abs

variable {H G:AHeap} {v u f:Value} {l m c D:List Int} {es fs:List (Int × Int)} {K:Value→AHeap→Prop} {A A':Nat→Prop} {B:Nat} {ls ms:List (List Int)}

noncomputable def grCode (n:Int) (es:List (Int × Int)):Int:=if IsG n es then 0 else 1
theorem mats_row {n:Int} (hg:IsG n es):∀ l∈mats n es,IsS l es.length∧l.length≤30:=fun l hl=>by
 have h:=matL_isS hg hl
 have h30:es.length≤30:=by have:=hg.ed.len;have:=hg.ed.hi;omega
 have hs:l.length≤es.length:=by rw [h.filt];exact filtB_length _ _
 exact ⟨h,by omega⟩
theorem every_ok {n:Int} (h:Edges H v es) (hl:es.length≤60) (k:∀ G,H.le G→K (.int .u64 ((2^es.length-1:Nat):Int)) G):AC Tryz.prog T0 108 [.agg ⟨[.int .i64 n,v]⟩] H K:=by
 apply F108.ac
 unfold F108.B2
 refine newK_f (all_iv (edges_one' h)) fun H1 l1 _ o1=>?_
 unfold F108.B1
 refine ld1_own o1 rfl ((h.le l1).len ⟨by omega,?_⟩)
 have e1:IntKind.u64.wrap (1*2^(min (Int.toNat ((es.length:Nat):Int)) 64))=((2^es.length:Nat):Int):=by
  have:=one_shl (i:=((es.length:Nat):Int)) (by omega) (by omega)
  rw [this,Int.toNat_natCast]
 have hp:(2:Nat)^es.length<2^61:=Nat.pow_lt_pow_right (by decide) (by omega)
 have h0:=Nat.two_pow_pos es.length
 have e2:IntKind.u64.wrap (((2^es.length:Nat):Int)-1)=((2^es.length-1:Nat):Int):=by
  generalize 2^es.length=p at hp h0 ⊢
  rw [show ((p:Nat):Int)-1=((p-1:Nat):Int) by omega,u64_nat (by omega)]
 rw [e1,e2]
 exact k _ l1
theorem bits_andnot {s t:Nat} (h:s<2^64) (g:t<2^64):IntKind.u64.wrap ((BitVec.ofInt 64 (s:Int)&&&~~~(BitVec.ofInt 64 (t:Int))).toNat:Int)=((s&&&(2^64-(t+1)):Nat):Int):=by
 have hs:s&&&(2^64-(t+1))<2^64:=Nat.lt_of_le_of_lt Nat.and_le_left h
 rw [bv_nat,bv_nat,BitVec.toNat_and,BitVec.toNat_not,BitVec.toNat_ofNat,BitVec.toNat_ofNat,Nat.mod_eq_of_lt h,Nat.mod_eq_of_lt g,show 2^64-1-t=2^64-(t+1) by omega,u64_nat hs]
theorem andnot_bit {s t j:Nat} (h:s<2^64) (g:t<2^64):(s&&&(2^64-(t+1))).testBit j=(s.testBit j&&!t.testBit j):=by
 rw [Nat.testBit_and,Nat.testBit_two_pow_sub_succ g]
 by_cases hj:j<64
 ·simp [hj]
 ·rw [testBit_big h (by omega)];simp
end Go.Proofs
namespace Go.Proofs
open Go.Abs

variable {H:AHeap} {v u f:Value} {l m c:List Int} {es fs:List (Int × Int)} {K:Value→AHeap→Prop}

end Go.Proofs
namespace Go.Proofs
open Go.Abs

section
variable {es:List (Int × Int)} {p:Nat→Bool} {l C:List Int} {n:Int}

theorem nodup_sup {l m:List Int} (hl:l.Nodup) (hs:∀ x∈l,x∈m) (hm:m.length≤l.length):∀ x∈m,x∈l:=by
 intro x hx
 apply Classical.byContradiction
 intro hn
 have:=nodup_sub (m:=m.erase x) hl fun y hy=>by
  rw [List.mem_erase_of_ne (by rintro rfl;exact hn hy)];exact hs y hy
 rw [List.length_erase_of_mem hx] at this
 have:=List.length_pos_of_mem hx
 omega
theorem asc_nodup {l:List Int} (h:Asc l):l.Nodup:=by
 unfold Asc at h
 exact h.imp fun h=>by intro e;omega
theorem filtB_nodup (S:Nat→Bool) (k:Nat):(filtB S k).Nodup:=asc_nodup (filtB_asc S k)
def degC (es:List (Int × Int)) (C:List Int) (x:Nat):Nat:=(C.filter fun i=>on (es.getD i.toNat (0,0)) x).length
theorem degC_snoc (C:List Int) (i:Nat) (x:Nat):degC es (C++[(i:Int)]) x=degC es C x+if on (es.getD i (0,0)) x then 1 else 0:=by
 unfold degC
 rw [List.filter_append,List.length_append]
 rw [List.filter_cons,Int.toNat_natCast,List.filter_nil]
 cases h:on (es.getD i (0,0)) x <;> rfl
theorem degC_cons (C:List Int) (i:Nat) (x:Nat):degC es ((i:Int)::C) x=degC es C x+if on (es.getD i (0,0)) x then 1 else 0:=by
 unfold degC
 rw [List.filter_cons,Int.toNat_natCast]
 cases h:on (es.getD i (0,0)) x <;> simp
def OneAt (n:Int) (es:List (Int × Int)) (l:List Int):Prop:=∀ x:Nat,(x:Int)<n→degC es l x=1
def leftP (l:List Int) (j:Nat):Bool:=!bitB l j
theorem left_deg (hg:IsG n es) (hs:IsS l es.length) (ho:OneAt n es l) {x:Nat} (hx:(x:Int)<n):degB es (leftP l) x=2:=by
 have h3:=hg.three (v:=(x:Int)) (by omega) hx
 have h1:=ho x hx
 unfold degC at h1
 rw [hs.filt] at h1
 have e1:((filtB (bitB l) es.length).filter fun i=>on (es.getD i.toNat (0,0)) x).length=((List.range es.length).filter fun j=>on (es.getD j (0,0)) x&&bitB l j).length:=by
  unfold filtB
  rw [List.filter_map,List.length_map,List.filter_filter]
  congr 1
 have h1':((List.range es.length).filter fun j=>on (es.getD j (0,0)) x&&bitB l j).length=1:=by
  rw [← e1]
  have:filtB (bitB (filtB (bitB l) es.length)) es.length=filtB (bitB l) es.length:=by rw [← hs.filt];exact hs.filt.symm
  rw [← hs.filt] at h1 ⊢
  exact h1
 unfold atL atTo at h3
 rw [List.length_map] at h3
 unfold degB filtB
 rw [List.length_map]
 have key:∀ L:List Nat,(L.filter fun j=>on (es.getD j (0,0)) x).length=(L.filter fun j=>on (es.getD j (0,0)) x&&leftP l j).length+(L.filter fun j=>on (es.getD j (0,0)) x&&bitB l j).length:=by
  intro L
  induction L with
  | nil=>rfl
  | cons a L ih=>
   rw [List.filter_cons,List.filter_cons,List.filter_cons]
   have hlp:leftP l a=!bitB l a:=rfl
   rw [hlp]
   cases h1:on (es.getD a (0,0)) x <;> cases h2:bitB l a <;> simp only [Bool.and_true,Bool.and_false,Bool.not_true,Bool.not_false,if_true,if_false,Bool.false_eq_true,List.length_cons] <;> omega
 have:=key (List.range es.length)
 omega
structure Walk (n:Int) (es:List (Int × Int)) (p:Nat→Bool) (e u0:Nat) (E:Nat→Prop) (C:List Int) (now w v:Nat):Prop where
 mem:∀ i∈C,∃ j:Nat,i=j∧j<es.length∧p j=true∧Rch (eAdj es p) e j∧¬ E j
 nd:C.Nodup
 par:∀ x:Nat,degC es C x%2=1↔¬ (x=u0↔x=w)
 lt:now<es.length
 pn:p now=true
 rch:Rch (eAdj es p) e now
 onw:on (es.getD now (0,0)) w=true
 onv:on (es.getD now (0,0)) v=true
 ne:w≠v
 wn:(w:Int)<n
 vn:(v:Int)<n
 last:(C=[]∧now=e∧w=u0)∨((e:Int)∈C∧∃ c:Nat,(c:Int)∈C∧c≠now∧on (es.getD c (0,0)) w=true)
theorem on_iff2 {i w v x:Nat} (h1:on (es.getD i (0,0)) w=true) (h2:on (es.getD i (0,0)) v=true) (hne:w≠v):on (es.getD i (0,0)) x=true↔x=w∨x=v:=by
 unfold on at h1 h2 ⊢
 simp only [Bool.or_eq_true,beq_iff_eq] at h1 h2 ⊢
 omega
variable {e u0 now w v:Nat} {E:Nat→Prop}
theorem Walk.step (h:Walk n es p e u0 E C now w v) (hC:(now:Int)∉C) (hE:¬ E now) {q v':Nat} (hq:q<es.length) (hp:p q=true) (hqn:q≠now) (hov:on (es.getD q (0,0)) v=true) (hov':on (es.getD q (0,0)) v'=true) (hvv:v≠v') (hvn:(v':Int)<n) :
 Walk n es p e u0 E (C++[(now:Int)]) q v v':=by
 refine ⟨fun i hi=>?_,?_,fun x=>?_,hq,hp,.step h.rch ⟨hq,hp,_,h.onv,hov⟩,hov,hov',hvv,h.vn,hvn,.inr ⟨?_,now,by simp,fun e=>hqn e.symm,h.onv⟩⟩
 ·rcases List.mem_append.1 hi with hi|hi
  ·exact h.mem i hi
  ·rw [List.mem_singleton] at hi
   exact ⟨now,hi,h.lt,h.pn,h.rch,hE⟩
 ·rw [List.nodup_append]
  refine ⟨h.nd,by simp,fun a ha b hb=>?_⟩
  rw [List.mem_singleton] at hb
  rintro rfl
  rw [hb] at ha
  exact hC ha
 ·rw [degC_snoc]
  have hp:=h.par x
  have ho:=on_iff2 (x:=x) h.onw h.onv h.ne
  have hne:=h.ne
  by_cases h1:on (es.getD now (0,0)) x=true
  ·rw [if_pos h1]
   have h2:=ho.1 h1
   by_cases hx:x=u0 <;> by_cases hw:x=w <;> by_cases hv:x=v <;> simp [hx,hw,hv] at hp h2 ⊢ <;> omega
  ·rw [if_neg h1,Nat.add_zero]
   have h2:x≠w∧x≠v:=⟨fun e=>h1 (ho.2 (.inl e)),fun e=>h1 (ho.2 (.inr e))⟩
   rw [hp]
   constructor
   ·intro h3 h4;exact h3 ⟨fun e=>absurd (h4.1 e) h2.2,fun e=>absurd e h2.1⟩
   ·intro h3 h4;exact h3 ⟨fun e=>absurd (h4.1 e) h2.1,fun e=>absurd e h2.2⟩
 ·rcases h.last with ⟨_,h2,_⟩|⟨h1,_⟩
  ·rw [h2];simp
  ·exact List.mem_append_left _ h1
theorem degC_le (h:∀ i∈C,∃ j:Nat,i=j∧j<es.length∧p j=true) (hn:C.Nodup) (x:Nat):degC es C x≤degB es p x:=by
 unfold degC degB
 refine nodup_sub (hn.filter _) fun i hi=>?_
 rw [List.mem_filter] at hi
 obtain ⟨j,rfl,h1,h2⟩:=h i hi.1
 rw [mem_filtB]
 refine ⟨j,rfl,h1,?_⟩
 have:=hi.2
 rw [Int.toNat_natCast] at this
 rw [this,h2];rfl
def Deg2 (n:Int) (es:List (Int × Int)) (p:Nat→Bool):Prop:=∀ x:Nat,(x:Int)<n→0<degB es p x→degB es p x=2
theorem degB_pos {i x:Nat} (h1:i<es.length) (h2:p i=true) (h3:on (es.getD i (0,0)) x=true):0<degB es p x:=
 List.length_pos_of_mem (mem_filtB.2 ⟨i,rfl,h1,by rw [h3,h2];rfl⟩)
theorem Walk.stop (h:Walk n es p e u0 E C now w v) (h2:Deg2 n es p) (hend:∀ i,i<es.length→∀ x:Int,on (es.getD i (0,0)) x=true→0≤x∧x<n) (hEe:¬ E e) (hEc:∀ a b,a<es.length→E a→eAdj es p a b→E b) (hs:(now:Int)∈C∨E now) :
 ∀ j,Rch (eAdj es p) e j→(j:Int)∈C:=by
 have hm:∀ i∈C,∃ j:Nat,i=j∧j<es.length∧p j=true:=fun i hi=>by obtain ⟨j,h1,h2,h3,_⟩:=h.mem i hi;exact ⟨j,h1,h2,h3⟩
 have hE:¬ E now:=by
  intro hn
  rcases h.last with ⟨_,h1,_⟩|⟨_,c,h1,h3,h4⟩
  ·rw [h1] at hn;exact hEe hn
  ·obtain ⟨c',e1,e2,e3,_,e5⟩:=h.mem c h1
   obtain rfl:c=c':=by omega
   exact e5 (hEc now c h.lt hn ⟨e2,e3,_,h.onw,h4⟩)
 have hC:(now:Int)∈C:=hs.elim id fun h=>absurd h hE
 obtain ⟨he,c,hc1,hc2,hc3⟩:(e:Int)∈C∧∃ c:Nat,(c:Int)∈C∧c≠now∧on (es.getD c (0,0)) w=true:=by
  rcases h.last with ⟨h1,_⟩|h1
  ·rw [h1] at hC;cases hC
  ·exact h1
 have hd:degC es C w=2:=by
  have hle:=degC_le hm h.nd w
  rw [h2 w h.wn (degB_pos h.lt h.pn h.onw)] at hle
  have:2≤degC es C w:=by
   have:=nodup_sub (l:=[(now:Int),(c:Int)]) (m:=C.filter fun i=>on (es.getD i.toNat (0,0)) w) (by simp;omega) fun x hx=>by
    rw [List.mem_filter]
    simp only [List.mem_cons,List.not_mem_nil,or_false] at hx
    rcases hx with rfl|rfl
    ·exact ⟨hC,by rw [Int.toNat_natCast];exact h.onw⟩
    ·exact ⟨hc1,by rw [Int.toNat_natCast];exact hc3⟩
   unfold degC;simpa using this
  omega
 have hw:w=u0:=by
  have:=h.par w
  rw [hd] at this
  apply Classical.byContradiction
  intro hn
  have:=this.2 fun h=>hn (h.2 rfl)
  omega
 have hev:∀ x,degC es C x%2=0:=by
  intro x
  have:=h.par x
  rw [hw] at this
  have h':¬ degC es C x%2=1:=fun hh=>this.1 hh Iff.rfl
  omega
 intro j hj
 refine hj.keep (P:=fun j=>(j:Int)∈C) (fun a b hab ha=>?_) he
 obtain ⟨hb1,hb2,x,hx1,hx2⟩:=hab
 obtain ⟨a',e1,ha1,ha2⟩:=hm _ ha
 obtain rfl:a=a':=by omega
 obtain ⟨x0,x1⟩:=hend a ha1 x hx1
 obtain ⟨y,rfl⟩:∃ y:Nat,x=y:=⟨x.toNat,by omega⟩
 have hle:=degC_le hm h.nd y
 rw [h2 y x1 (degB_pos ha1 ha2 hx1)] at hle
 have hpos:0<degC es C y:=List.length_pos_of_mem (List.mem_filter.2 ⟨ha,by rw [Int.toNat_natCast];exact hx1⟩)
 have hey:=hev y
 have hall:=nodup_sup (l:=C.filter fun i=>on (es.getD i.toNat (0,0)) y) (m:=filtB (fun j=>on (es.getD j (0,0)) y&&p j) es.length) (h.nd.filter _) (fun i hi=>by
  rw [List.mem_filter] at hi
  obtain ⟨j,rfl,h1,h2⟩:=hm i hi.1
  rw [mem_filtB]
  refine ⟨j,rfl,h1,?_⟩
  have:=hi.2
  rw [Int.toNat_natCast] at this
  rw [this,h2];rfl) (by
   have:=h2 y x1 (degB_pos ha1 ha2 hx1)
   unfold degB at this
   unfold degC at hpos hey hle
   omega)
 have:=hall b (mem_filtB.2 ⟨b,rfl,hb1,by rw [hx2,hb2];rfl⟩)
 exact (List.mem_filter.1 this).1
theorem Walk.comp (h:Walk n es p e u0 E C now w v) (hall:∀ j,Rch (eAdj es p) e j→(j:Int)∈C):C.length=(compL es p e).length∧∀ j:Nat,(j:Int)∈C↔Rch (eAdj es p) e j:=by
 have hiff:∀ j:Nat,(j:Int)∈C↔Rch (eAdj es p) e j:=fun j=>⟨fun hj=>by
  obtain ⟨j',e1,_,_,h4,_⟩:=h.mem _ hj
  obtain rfl:j=j':=by omega
  exact h4,hall j⟩
 refine ⟨Nat.le_antisymm ?_ ?_,hiff⟩
 ·refine nodup_sub h.nd fun x hx=>?_
  obtain ⟨j,rfl,h1,_,h3,_⟩:=h.mem x hx
  exact mem_compL.2 ⟨j,rfl,h1,h3⟩
 ·refine nodup_sub (asc_nodup (compL_asc e)) fun x hx=>?_
  obtain ⟨j,rfl,_,h3⟩:=mem_compL.1 hx
  exact hall j h3
theorem other_left (h2:degB es p v=2) (hnow:now<es.length):∃ q,q<es.length∧p q=true∧q≠now∧on (es.getD q (0,0)) v=true:=by
 apply Classical.byContradiction
 intro hn
 unfold degB at h2
 have:=nodup_sub (m:=[(now:Int)]) (filtB_nodup (fun j=>on (es.getD j (0,0)) v&&p j) es.length) fun x hx=>by
  obtain ⟨j,rfl,h1,h3⟩:=mem_filtB.1 hx
  rw [Bool.and_eq_true] at h3
  rw [List.mem_singleton]
  apply Classical.byContradiction
  intro hne
  exact hn ⟨j,h1,h3.2,fun e=>hne (by rw [e]),h3.1⟩
 rw [h2] at this
 simp at this
end
theorem matL_one {n:Int} {es:List (Int × Int)} (hg:IsG n es):∀ {k s:Nat} {l:List Int},l∈matL es n.toNat k s→∀ x:Nat,x<n.toNat→degC es l x=if s.testBit x then 0 else 1
 | 0,s,l,h,x,hx=>by
  unfold matL at h
  by_cases he:fv s n.toNat=n.toNat
  ·rw [if_pos he,List.mem_singleton] at h
   subst h
   rw [fv_below (s:=s) (n:=n.toNat) (j:=x) (by omega)];rfl
  ·rw [if_neg he] at h;cases h
 | k+1,s,l,h,x,hx=>by
  by_cases he:fv s n.toNat=n.toNat
  ·rw [matL_end he,List.mem_singleton] at h
   subst h
   rw [fv_below (s:=s) (n:=n.toNat) (j:=x) (by omega)];rfl
  ·unfold matL at h
   rw [if_neg he,List.mem_flatMap] at h
   obtain ⟨e,hm,hl⟩:=h
   obtain ⟨i,rfl,hi,ho⟩:=mem_atL.1 hm
   by_cases hb:s.testBit (othN es (i:Int) (fv s n.toNat))=true
   ·rw [if_pos hb] at hl;cases hl
   ·rw [if_neg hb,List.mem_map] at hl
    obtain ⟨m,hm',rfl⟩:=hl
    have hlt:fv s n.toNat<n.toNat:=by have:=fv_le s n.toNat;omega
    have hw:(othN es (i:Int) (fv s n.toNat):Int)=(es.getD i (0,0)).1+(es.getD i (0,0)).2-fv s n.toNat:=by
     obtain ⟨d1,d2,d3,d4,d5⟩:=hg.ed.ends es[i] (List.getElem_mem hi)
     rw [← getD_of (d:=(0,0)) hi] at d1 d2 d3 d4 d5
     unfold on at ho
     simp only [Bool.or_eq_true,beq_iff_eq] at ho
     unfold othN;rw [Int.toNat_natCast];omega
    have fe:=firstE hg hi ho hw (by simpa using hb)
    obtain ⟨w,hww⟩:∃ w,w=othN es (i:Int) (fv s n.toNat):=⟨_,rfl⟩
    rw [← hww] at hm' hb hw fe
    have ih:=matL_one hg hm' x hx
    have hvb:=fv_at hlt
    have hon:on (es.getD i (0,0)) x=true↔x=fv s n.toNat∨x=w:=by
     have:=fe.fst;have:=fe.snd
     unfold on
     simp only [Bool.or_eq_true,beq_iff_eq]
     omega
    have hvw:=fe.vw
    rw [degC_cons,ih]
    rw [Nat.testBit_or,Nat.testBit_or,Nat.testBit_two_pow,Nat.testBit_two_pow]
    by_cases h1:x=fv s n.toNat
    ·rw [h1] at hon ⊢
     rw [if_pos (hon.2 (.inl rfl)),hvb];simp
    ·by_cases h2:x=w
     ·rw [if_pos (hon.2 (.inr h2))]
      rw [h2,show s.testBit w=false by simpa using hb];simp
     ·rw [if_neg fun h=>(hon.1 h).elim h1 h2]
      rw [decide_eq_false fun e=>h1 e.symm,decide_eq_false fun e=>h2 e.symm]
      simp
theorem mats_one {n:Int} {es:List (Int × Int)} (hg:IsG n es) {l:List Int} (h:l∈matL es n.toNat 10 0):OneAt n es l:=by
 intro x hx
 have:=matL_one hg h x (by omega)
 simpa using this
end Go.Proofs
namespace Go.Proofs
open Go.Abs

variable {H G:AHeap} {v u f:Value} {l m c D:List Int} {es fs:List (Int × Int)} {K:Value→AHeap→Prop} {A A':Nat→Prop} {B:Nat} {ls ms:List (List Int)}

noncomputable def lensTo (es:List (Int × Int)) (p:Nat→Bool):Nat→List Nat
 | 0=>[]
 | k+1=>lensTo es p k++if p k=true∧cLeadB es p k=true then [(compL es p k).length] else []
end Go.Proofs
namespace Go.Proofs
open Go.Abs

variable {H G:AHeap} {v u f:Value} {l m c D:List Int} {es fs:List (Int × Int)} {K:Value→AHeap→Prop} {A A':Nat→Prop} {B:Nat} {ls ms cs:List (List Int)}

def oddSum (l:List Nat):Nat:=(l.map (· % 2)).sum
theorem oddSum_snoc (l:List Nat) (x:Nat):oddSum (l++[x])=oddSum l+x%2:=by unfold oddSum;simp
theorem oddSum_le (l:List Nat):oddSum l≤l.length:=by
 unfold oddSum
 induction l with
 | nil=>simp
 | cons a l ih=>simp;omega
theorem tmod2 (x:Nat):Int.tmod ((x:Nat):Int) 2=((x%2:Nat):Int):=by
 rw [Int.tmod_eq_emod_of_nonneg (by omega)];omega
section
variable {p p':Nat→Bool}
theorem eAdj_congr (h:∀ j,j<es.length→p j=p' j):eAdj es p=eAdj es p':=by
 funext i j
 unfold eAdj
 rw [eq_iff_iff]
 constructor
 ·rintro ⟨h1,h2,h3⟩;exact ⟨h1,by rw [← h j h1];exact h2,h3⟩
 ·rintro ⟨h1,h2,h3⟩;exact ⟨h1,by rw [h j h1];exact h2,h3⟩
theorem lensTo_congr (h:∀ j,j<es.length→p j=p' j):∀ k,k≤es.length→lensTo es p k=lensTo es p' k
 | 0,_=>rfl
 | k+1,hk=>by
  have hc:compL es p k=compL es p' k:=by unfold compL;rw [eAdj_congr h]
  have hl:cLeadB es p k=cLeadB es p' k:=by
   rw [Bool.eq_iff_iff,cLeadB_iff,cLeadB_iff]
   unfold cLead
   rw [eAdj_congr h]
   constructor
   ·intro g j h1 h2;exact g j h1 (by rw [h j (by omega)];exact h2)
   ·intro g j h1 h2;exact g j h1 (by rw [← h j (by omega)];exact h2)
  rw [lensTo,lensTo,lensTo_congr h k (by omega),hc,hl,h k (by omega)]
theorem cycN_lens (hm:es.length≤64):∀ k,(cycN es p (filtB p k)).map (fun z=>popc z 64)=lensTo es p k
 | 0=>rfl
 | k+1=>by
  have ih:=cycN_lens hm k
  unfold cycN at ih ⊢
  rw [filtB_succ,List.filter_append,List.map_append,List.map_append,ih,lensTo]
  congr 1
  cases h1:p k with
  | false=>simp
  | true=>
   cases h2:cLeadB es p k with
   | false=>simp [h2]
   | true=>
    have:popc (compN es p k) 64=(compL es p k).length:=by rw [← compN_list hm];rfl
    simp [h2,this]
end
noncomputable def oddN (es:List (Int × Int)) (l:List Int):Nat:=oddSum (lensTo es (leftP l) es.length)
theorem lensTo_length (es:List (Int × Int)) (p:Nat→Bool):∀ k,(lensTo es p k).length≤k
 | 0=>Nat.le_refl _
 | k+1=>by
  have:=lensTo_length es p k
  rw [lensTo,List.length_append]
  split <;> simp <;> omega
theorem oddN_le (es:List (Int × Int)) (l:List Int):oddN es l≤es.length:=Nat.le_trans (oddSum_le _) (lensTo_length _ _ _)
theorem left_ok {n:Int} (h:Edges H v es) (hg:IsG n es) (hS:IsS l es.length)
 (k:∀ v' G Z,H.le G→Fresh H.length G v' 83 1 (LU Z)→Z.map (fun z=>popc z 64)=lensTo es (leftP l) es.length→(∀ z∈Z,z<2^64)→K v' G):AC Tryz.prog T0 102 [.agg ⟨[.int .i64 n,v]⟩,.int .u64 (setN l:Nat)] H K:=by
 have h30:es.length≤30:=by have:=hg.ed.len;have:=hg.ed.hi;omega
 have hs:setN l<2^64:=setN_lt fun x hx=>by have:=hS.range x hx;omega
 have hp:(2:Nat)^es.length<2^61:=Nat.pow_lt_pow_right (by decide) (by omega)
 have hp64:(2:Nat)^61<2^64:=by decide
 have hmp:=Nat.two_pow_pos es.length
 apply F102.ac
 unfold F102.B2
 refine newK_f (all_iv (edges_one' h)) fun H1 l1 _ o1=>?_
 unfold F102.B1
 refine ldI_own o1 rfl (ld1_own o1 rfl (ldI_own o1 rfl (ld1_own o1 rfl (every_ok (h.le l1) (by omega) fun H2 l2=>asI_mk ⟨l2,?_⟩))))
 rw [bits_andnot (by omega) hs]
 obtain ⟨X,hX⟩:∃ X,X=(2^es.length-1)&&&(2^64-(setN l+1)):=⟨_,rfl⟩
 rw [← hX]
 have hXl:X<2^64:=by rw [hX];exact Nat.lt_of_le_of_lt Nat.and_le_left (by omega)
 have hXb:∀ j,X.testBit j=(decide (j<es.length)&&leftP l j):=fun j=>by rw [hX,andnot_bit (by omega) hs,Nat.testBit_two_pow_sub_one];rfl
 have l12:=AHeap.le_trans l1 l2
 refine cycles_ok (h.le l12) hg hXl (fun j hj=>by rw [hXb,Bool.and_eq_true] at hj;exact of_decide_eq_true hj.1) fun v' G lG fG=>?_
 refine k v' G _ (AHeap.le_trans l12 lG) (fG.less l12.1) ?_ fun z hz=>?_
 ·rw [cycN_lens (by omega)]
  exact lensTo_congr (fun j hj=>by show X.testBit j=_;rw [hXb];simp [hj]) _ (Nat.le_refl _)
 ·unfold cycN at hz
  obtain ⟨y,_,rfl⟩:=List.mem_map.1 hz
  exact compN_lt (by omega)
theorem odd_ok {n:Int} (h:Edges H v es) (hg:IsG n es) (hS:IsS l es.length) (k:∀ G,H.le G→K (.int .i64 (oddN es l:Nat)) G):AC Tryz.prog T0 135 [.agg ⟨[.int .i64 n,v]⟩,.int .u64 (setN l:Nat)] H K:=by
 apply F135.ac
 unfold F135.B9
 refine newK_f (all_iv (edges_one' h)) fun H1 l1 _ o1=>?_
 unfold F135.B8 F135.B7
 refine ldI_own o1 rfl (ld1_own o1 rfl (left_ok (h.le l1) hg hS fun w H2 Z l2 f2 hZ hz64=>?_))
 have h30:es.length≤30:=by have:=hg.ed.len;have:=hg.ed.hi;omega
 have hZl:Z.length≤30:=by
  have:=congrArg List.length hZ
  rw [List.length_map] at this
  have:=lensTo_length es (leftP l) es.length
  omega
 have l12:=AHeap.le_trans l1 l2
 refine f2.sl.len (by decide) (n:=Z.length) (by simp) ?_
 unfold F135.L2
 refine ⟨fun x5 x10 x11 x12 G=>w=x10∧(Z.length:Int)=x11∧H2=G∧∃ i:Nat,x12=i∧i≤Z.length∧x5=(oddSum ((Z.take i).map fun z=>popc z 64):Nat),fun _ _ _ x12 _=>Z.length-x12.toNat,⟨rfl,rfl,rfl,0,rfl,by omega,by simp [oddSum]⟩,?_⟩
 rintro x5 x10 x11 x12 G ⟨rfl,rfl,rfl,i,rfl,hi,rfl⟩
 have ho:=oddSum_le ((Z.take i).map fun z=>popc z 64)
 rw [List.length_map,List.length_take] at ho
 unfold F135.B6
 refine pif_cases (fun hb=>?_) fun hb=>?_
 ·have hil:i<Z.length:=by have:=of_decide_eq_true hb;omega
  unfold F135.B5
  refine Sl_rdI f2.sl (by omega) (by simp;omega) (by rw [Int.toNat_natCast];exact LU_get hil) ?_
  rw [getD_of hil]
  unfold F135.B4
  refine size_ok (hz64 _ (List.getElem_mem hil)) (asI_mk ?_)
  unfold F135.B3
  rw [tmod2,wrap_id (by omega) (by omega),wrap_id (by omega) (by omega)]
  refine ⟨⟨rfl,rfl,rfl,i+1,by omega,by omega,?_⟩,by show Z.length-((i:Int)+1).toNat<Z.length-(i:Int).toNat;omega⟩
  rw [List.take_succ_eq_append_getElem hil,List.map_append,List.map_singleton,oddSum_snoc];omega
 ·have hil:i=Z.length:=by have:=of_decide_eq_false hb;omega
  subst hil
  unfold F135.B1
  have k:=k _ l12
  unfold oddN at k
  rw [← hZ] at k
  rw [List.take_length];exact k
noncomputable def bestS (es:List (Int × Int)) (b:List Int × Int) (l:List Int):List Int × Int:=if b.2<0∨(oddN es l:Int)<b.2 then (l,(oddN es l:Int)) else b
noncomputable def bestF (es:List (Int × Int)) (L:List (List Int)):List Int × Int:=L.foldl (bestS es) ([],-1)
theorem bestF_snoc (L:List (List Int)) (l:List Int):bestF es (L++[l])=bestS es (bestF es L) l:=by unfold bestF;rw [List.foldl_append];rfl
theorem bestF_rng (L:List (List Int)):∀ b:List Int × Int,-1≤b.2→b.2≤es.length→-1≤(L.foldl (bestS es) b).2∧(L.foldl (bestS es) b).2≤es.length:=by
 induction L with
 | nil=>exact fun b h1 h2=>⟨h1,h2⟩
 | cons l L ih=>
  intro b h1 h2
  rw [List.foldl_cons]
  have:=oddN_le es l
  refine ih _ ?_ ?_
  ·unfold bestS
   split
   ·show (-1:Int)≤(oddN es l:Int);omega
   ·exact h1
  ·unfold bestS
   split
   ·show (oddN es l:Int)≤es.length;omega
   ·exact h2
theorem bestF_rng0 (L:List (List Int)):-1≤(bestF es L).2∧(bestF es L).2≤es.length:=bestF_rng L _ (by decide) (by show (-1:Int)≤es.length;omega)
theorem bestF_none {L:List (List Int)}:(bestF es L).2=-1↔L=[]:=by
 have nn:∀ (L:List (List Int)) (b:List Int × Int),0≤b.2→0≤(L.foldl (bestS es) b).2:=by
  intro L
  induction L with
  | nil=>exact fun b h=>h
  | cons l L ih=>
   intro b h
   rw [List.foldl_cons]
   refine ih _ ?_
   unfold bestS
   split
   ·simp
   ·exact h
 constructor
 ·intro h
  cases L with
  | nil=>rfl
  | cons l L=>
   unfold bestF at h
   rw [List.foldl_cons] at h
   have:=nn L (bestS es ([],-1) l) (by unfold bestS;rw [if_pos (.inl (by decide))];simp)
   omega
 ·rintro rfl;rfl
noncomputable def isZero (es:List (Int × Int)) (d:List (List Int)):Bool:=@decide ((bestF es d).2=0) (Classical.propDecidable _)
theorem best_zero (L:List (List Int)):∀ b:List Int × Int,b.2=0→L.foldl (bestS es) b=b:=by
 induction L with
 | nil=>exact fun b _=>rfl
 | cons l L ih=>
  intro b h
  rw [List.foldl_cons]
  have:bestS es b l=b:=by unfold bestS;rw [if_neg (by omega)]
  rw [this];exact ih b h
theorem best_up:∀ (L d:List (List Int)),bestF es (d++upToD (isZero es) d L)=bestF es (d++L)
 | [],d=>rfl
 | x::L,d=>by
  rw [upToD]
  by_cases h:isZero es (d++[x])=true
  ·rw [if_pos h]
   have h0:(bestF es (d++[x])).2=0:=by unfold isZero at h;simpa using h
   have:bestF es (d++x::L)=bestF es (d++[x]):=by
    rw [show d++x::L=(d++[x])++L by simp]
    unfold bestF at h0 ⊢
    rw [List.foldl_append]
    exact best_zero L _ h0
   rw [this]
  ·rw [if_neg h]
   have:=best_up L (d++[x])
   rw [List.append_assoc,List.append_assoc] at this
   exact this
theorem mats_row2 {n:Int} (hg:IsG n es):∀ l∈mats n es,IsS l es.length∧l.length≤30∧OneAt n es l:=fun l hl=>⟨(mats_row hg l hl).1,(mats_row hg l hl).2,mats_one hg hl⟩
theorem RowsF.rowA (h:RowsF A B H v ls) {i:Nat} (hi:i<ls.length) {K:Value→Prop} (k:∀ w,Fresh 0 H w 2 1 (LI (ls.getD i []))→(∀ b,bk w=some b→A b)→K w):idxK v i 1 (fun b o=>ld1 H b o K):=by
 obtain ⟨vs,h1,h2,h3,h4⟩:=h
 obtain ⟨w,g1,g2,g3⟩:=h4 i hi
 exact Sl_rd h1.sl (by omega) (by omega) (by rw [Int.toNat_natCast];exact g1) (k w g2 fun b hb=>(g3 b hb).1)
theorem best_ok {n:Int} (hT:Tab H) (h:Edges H v es) (hg:IsG n es)
 (k:∀ G,H.le G→K (.tuple ⟨[.int .u64 (setN (bestF es (mats n es)).1:Nat),.int .i64 (bestF es (mats n es)).2,.bool (decide (mats n es≠[]))]⟩) G):AC Tryz.prog T0 71 [.agg ⟨[.int .i64 n,v]⟩] H K:=by
 have h30:es.length≤30:=by have:=hg.ed.len;have:=hg.ed.hi;omega
 have hrow:=mats_row2 hg
 apply F71.ac
 unfold F71.B5
 refine newK_f (all_iv (edges_one' h)) fun H1 l1 n1 o1=>?_
 unfold F71.B4
 refine newK_f rfl fun H2 l2 n2 o2=>?_
 unfold F71.B3
 refine newK_f rfl fun H3 l3 n3 o3=>stK_f o3 (by simp) (by simp [Value.oneCell']) rfl fun H4 b4 o4=>?_
 obtain ⟨a,ha⟩:∃ a,a=H1.length:=⟨_,rfl⟩
 obtain ⟨b,hb⟩:∃ b,b=H2.length:=⟨_,rfl⟩
 rw [← ha] at o2;rw [← hb] at o4;rw [← ha,← hb]
 have hab:a+1=b:=by omega
 have o24:Own H4 a 83 [.int .u64 0]:=b4.own (o2.le l3) (by omega)
 have o4:Own H4 b 2 [.int .i64 (-1)]:=by simpa using o4
 have l24:H2.le H4:=b4.le l3 (Nat.le_refl _)
 have l14:=AHeap.le_trans l2 l24
 have l04:=AHeap.le_trans l1 l14
 have o14:=o1.le l14
 have hb1:=l1.1
 have hl4:H4.length=H2.length+1:=by rw [b4.len];omega
 unfold F71.B2
 refine ldI_own o14 rfl (ld1_own o14 rfl (matchings_ok hg (H0:=H) (Pv0:=fun x=>x=a∨x=b) (q:=isZero es)
  (J:=fun done Pv G=>(∀ x,Pv x↔(x=a∨x=b))∧b<G.length∧(∀ l∈done,l∈mats n es)∧Own G a 83 [.int .u64 (setN (bestF es done).1:Nat)]∧Own G b 2 [.int .i64 (bestF es done).2])
  h l04 (fun x hx=>by omega) hT rfl ⟨fun x=>Iff.rfl,by omega,(fun l hl=>by cases hl),o24,o4⟩ ?_ ?_ ?_ ?_))
 ·rintro done Pv G G2 ⟨h1,h2,h3,h4,h5⟩ hle
  exact ⟨h1,by have:=hle.1;omega,h3,h4.le hle,h5.le hle⟩
 ·rintro done Pv G x ⟨h1,h2,h3,h4,h5⟩ hx
  have:=(h1 x).1 hx;omega
 ·rintro done Pv l G ⟨h1,h2,h3,h4,h5⟩ hF hlm _ K hK
  obtain ⟨q1,q2,q3⟩:=hrow l hlm
  obtain ⟨h0G,_⟩:=hF.base l04 (fun x hx=>by omega)
  have oG:Own G H.length _ [.int .i64 n,v]:=hF.old _ _ (by omega) o14
  have hmem:∀ l'∈done++[l],l'∈mats n es:=fun l' hl'=>by
   rcases List.mem_append.1 hl' with h|h
   ·exact h3 l' h
   ·rw [List.mem_singleton] at h;rw [h];exact hlm
  refine callV_mk ?_
  apply F134.ac
  unfold F134.B5 F134.B4
  refine asP_mk (ldI_own oG rfl (ld1_own oG rfl (odd_ok (h.le h0G) hg q1 fun G2 lG2=>asI_mk ?_)))
  have h4':=h4.le lG2
  have h5':=h5.le lG2
  have hr:=bestF_rng0 (es:=es) done
  have hsn:=bestF_snoc (es:=es) done l
  have last:∀ G3,(∀ x o,¬ Pv x→G2[x]?=some (some o)→G3[x]?=some (some o))→G3.length=G2.length→Own G3 a 83 [.int .u64 (setN (bestF es (done++[l])).1:Nat)]→Own G3 b 2 [.int .i64 (bestF es (done++[l])).2]→F134.B1 K (.pointer (some ⟨b,0,none⟩)) G3:=by
   intro G3 hold hlen3 oa ob
   unfold F134.B1
   refine asP_mk (ldI_own ob rfl ?_)
   have e:((bestF es (done++[l])).2==0)=isZero es (done++[l]):=by
    rw [Bool.eq_iff_iff,beq_iff_eq];unfold isZero;simp
   rw [e]
   exact hK G3 Pv ⟨h1,by rw [hlen3];have:=lG2.1;omega,hmem,oa,ob⟩ ⟨by rw [hlen3];exact lG2.1,fun x hx=>.inl hx,fun x o hx ho=>hold x o hx (lG2.2 _ _ ho)⟩
  have upd:((bestF es done).2<0∨(oddN es l:Int)<(bestF es done).2)→F134.B2 K (setN l:Nat) (.pointer (some ⟨b,0,none⟩)) (.pointer (some ⟨a,0,none⟩)) (oddN es l:Nat) G2:=by
   intro hc
   have e:bestF es (done++[l])=(l,(oddN es l:Int)):=by rw [hsn];unfold bestS;rw [if_pos hc]
   unfold F134.B2
   refine asP_mk (stK_f h4' (by simp) (by simp [Value.oneCell']) rfl fun G3 b3 o3'=>asP_mk (stK_f (b3.own h5' (by omega)) (by simp) (by simp [Value.oneCell']) rfl fun G4 b4' o4'=>?_))
   refine last G4 (fun x o hx ho=>?_) (by rw [b4'.len,b3.len]) ?_ ?_
   ·have hn:¬ (x=a∨x=b):=fun h=>hx ((h1 x).2 h)
    rw [b4'.same x (by omega),b3.same x (by omega)];exact ho
   ·rw [e];exact b4'.own (by simpa using o3') (by omega)
   ·rw [e];simpa using o4'
  unfold F134.B3
  refine asP_mk (ldI_own h5' rfl (pif_cases (fun hb=>?_) fun hb=>asP_mk (ldI_own h5' rfl (pif_cases (fun hb2=>?_) fun hb2=>?_))))
  ·exact upd (.inl (by have:=beq_iff_eq.1 hb;omega))
  ·exact upd (.inr (of_decide_eq_true hb2))
  ·have h1':(bestF es done).2≠-1:=fun e=>by rw [e] at hb;simp at hb
   have h2':=of_decide_eq_false hb2
   have e:bestF es (done++[l])=bestF es done:=by rw [hsn];unfold bestS;rw [if_neg (by omega)]
   refine last G2 (fun x o _ ho=>ho) rfl ?_ ?_
   ·rw [e];exact h4'
   ·rw [e];exact h5'
 ·rintro G Pv ⟨h1,h2,h3,h4,h5⟩ hF
  have e:bestF es (upToD (isZero es) [] (mats n es))=bestF es (mats n es):=by
   have:=best_up (es:=es) (mats n es) []
   simpa using this
  rw [e] at h4 h5
  have hbG:=(hF.base l04 (fun x hx=>by omega)).1
  refine asB_mk ?_
  unfold F71.B1
  refine ldI_own h4 rfl (ldI_own h5 rfl (ldI_own h5 rfl ?_))
  have e2:((bestF es (mats n es)).2 != -1)=decide (mats n es≠[]):=by
   rw [Bool.eq_iff_iff,bne_iff_ne,decide_eq_true_iff]
   exact not_congr bestF_none
  rw [e2]
  exact k G hbG
noncomputable def bmCode (n:Int) (es:List (Int × Int)):Int:=if IsG n es then (if mats n es=[] then 4 else 0) else 1
noncomputable def bmList (n:Int) (es:List (Int × Int)):List Int:=if bmCode n es=0 then (bestF es (mats n es)).1 else []
noncomputable def odVal (n:Int) (es:List (Int × Int)):Int:=if bmCode n es=0 then (bestF es (mats n es)).2 else 0
end Go.Proofs
namespace Go.Proofs
open Go.Abs

noncomputable def nxE (es:List (Int × Int)) (p:Nat→Bool) (now v:Nat):Nat:=@dite Nat (∃ q,q<es.length∧p q=true∧q≠now∧on (es.getD q (0,0)) v=true) (Classical.propDecidable _) (fun h=>Classical.choose h) fun _=>0
noncomputable def wk (es:List (Int × Int)) (p:Nat→Bool) (e:Nat):Nat→Nat × Nat
 | 0=>(e,(es.getD e (0,0)).2.toNat)
 | t+1=>(nxE es p (wk es p e t).1 (wk es p e t).2,othN es (nxE es p (wk es p e t).1 (wk es p e t).2:Nat) (wk es p e t).2)
noncomputable def wkL (es:List (Int × Int)) (p:Nat→Bool) (e T:Nat):List Int:=(List.range T).map fun t=>((wk es p e t).1:Int)
theorem wkL_succ (es:List (Int × Int)) (p:Nat→Bool) (e T:Nat):wkL es p e (T+1)=wkL es p e T++[((wk es p e T).1:Int)]:=by
 unfold wkL;rw [List.range_succ,List.map_append];rfl
theorem wkL_length (es:List (Int × Int)) (p:Nat→Bool) (e T:Nat):(wkL es p e T).length=T:=by simp [wkL]
section
variable {es:List (Int × Int)} {p:Nat→Bool} {n:Int} {e now v q:Nat}
theorem nx_eq (h2:degB es p v=2) (hn1:now<es.length) (hn2:p now=true) (hn3:on (es.getD now (0,0)) v=true) (h1:q<es.length) (h3:p q=true) (h4:q≠now) (h5:on (es.getD q (0,0)) v=true):nxE es p now v=q:=by
 have hex:∃ q,q<es.length∧p q=true∧q≠now∧on (es.getD q (0,0)) v=true:=⟨q,h1,h3,h4,h5⟩
 have e:nxE es p now v=Classical.choose hex:=by unfold nxE;rw [dif_pos hex]
 obtain ⟨g1,g2,g3,g4⟩:=Classical.choose_spec hex
 rw [e]
 generalize Classical.choose hex=r at g1 g2 g3 g4
 apply Classical.byContradiction
 intro hne
 have:=nodup_sub (l:=[((now:Nat):Int),((q:Nat):Int),((r:Nat):Int)]) (m:=filtB (fun j=>on (es.getD j (0,0)) v&&p j) es.length) (by
  simp only [List.nodup_cons,List.mem_cons,List.not_mem_nil,or_false,not_or,List.nodup_nil,not_false_eq_true,and_true]
  omega) fun x hx=>by
   simp only [List.mem_cons,List.not_mem_nil,or_false] at hx
   rcases hx with rfl|rfl|rfl
   ·exact mem_filtB.2 ⟨_,rfl,hn1,by rw [hn3,hn2];rfl⟩
   ·exact mem_filtB.2 ⟨_,rfl,h1,by rw [h5,h3];rfl⟩
   ·exact mem_filtB.2 ⟨_,rfl,g1,by rw [g4,g2];rfl⟩
 unfold degB at h2
 rw [h2] at this
 simp at this
noncomputable def wkW (es:List (Int × Int)) (p:Nat→Bool) (e:Nat):Nat→Nat
 | 0=>(es.getD e (0,0)).1.toNat
 | t+1=>(wk es p e t).2
theorem wk_walk2 (hg:IsG n es) (h2:Deg2 n es p) (he:e<es.length) (hpe:p e=true):∀ t,t≤(compL es p e).length→Walk n es p e (es.getD e (0,0)).1.toNat (fun _=>False) (wkL es p e t) (wk es p e t).1 (wkW es p e t) (wk es p e t).2
 | 0,_=>by
  obtain ⟨d1,d2,d3,d4,d5⟩:=hg.ed.ends es[e] (List.getElem_mem he)
  rw [← getD_of (d:=(0,0)) he] at d1 d2 d3 d4 d5
  show Walk n es p e _ _ [] e (es.getD e (0,0)).1.toNat (es.getD e (0,0)).2.toNat
  refine ⟨(fun i hi=>by cases hi),List.nodup_nil,fun x=>by simp [degC],he,hpe,.refl,?_,?_,by omega,by omega,by omega,.inl ⟨rfl,rfl,rfl⟩⟩
  ·unfold on;simp only [Bool.or_eq_true,beq_iff_eq];left;omega
  ·unfold on;simp only [Bool.or_eq_true,beq_iff_eq];right;omega
 | t+1,ht=>by
  have hW:=wk_walk2 hg h2 he hpe t (by omega)
  have hend:∀ i,i<es.length→∀ x:Int,on (es.getD i (0,0)) x=true→0≤x∧x<n:=fun i hi x hx=>by
   obtain ⟨d1,d2,d3,d4,d5⟩:=hg.ed.ends es[i] (List.getElem_mem hi)
   rw [← getD_of (d:=(0,0)) hi] at d1 d2 d3 d4 d5
   unfold on at hx
   simp only [Bool.or_eq_true,beq_iff_eq] at hx
   omega
  have hnot:((wk es p e t).1:Int)∉wkL es p e t:=fun hm=>by
   have:=(hW.comp (hW.stop h2 hend (fun h=>h) (fun _ _ _ h _=>h) (.inl hm))).1
   rw [wkL_length] at this;omega
  have hvn:=hW.vn
  obtain ⟨q,q1,q2,q3,q4⟩:=other_left (now:=(wk es p e t).1) (h2 (wk es p e t).2 hvn (degB_pos hW.lt hW.pn hW.onv)) hW.lt
  have hnx:=nx_eq (h2 _ hvn (degB_pos hW.lt hW.pn hW.onv)) hW.lt hW.pn hW.onv q1 q2 q3 q4
  obtain ⟨d1,d2,d3,d4,d5⟩:=hg.ed.ends es[q] (List.getElem_mem q1)
  rw [← getD_of (d:=(0,0)) q1] at d1 d2 d3 d4 d5
  have hon:=q4
  unfold on at hon
  simp only [Bool.or_eq_true,beq_iff_eq] at hon
  have ho:(othN es (q:Int) (wk es p e t).2:Int)=(es.getD q (0,0)).1+(es.getD q (0,0)).2-(wk es p e t).2:=by unfold othN;rw [Int.toNat_natCast];omega
  rw [wkL_succ]
  have e1:(wk es p e (t+1)).1=q:=by rw [wk,hnx]
  have e2:(wk es p e (t+1)).2=othN es (q:Int) (wk es p e t).2:=by rw [wk,hnx]
  rw [e1,e2]
  show Walk n es p e _ _ _ q (wk es p e t).2 _
  refine hW.step hnot (fun h=>h) q1 q2 q3 q4 ?_ (by omega) (by omega)
  unfold on
  simp only [Bool.or_eq_true,beq_iff_eq]
  omega
theorem wk_walk (hg:IsG n es) (h2:Deg2 n es p) (he:e<es.length) (hpe:p e=true) (t:Nat) (ht:t≤(compL es p e).length):∃ a0 w,Walk n es p e a0 (fun _=>False) (wkL es p e t) (wk es p e t).1 w (wk es p e t).2:=⟨_,_,wk_walk2 hg h2 he hpe t ht⟩
theorem wk_not (hg:IsG n es) (h2:Deg2 n es p) (he:e<es.length) (hpe:p e=true) {t:Nat} (ht:t<(compL es p e).length):((wk es p e t).1:Int)∉wkL es p e t:=by
 obtain ⟨a0,w,hW⟩:=wk_walk hg h2 he hpe t (by omega)
 have hend:∀ i,i<es.length→∀ x:Int,on (es.getD i (0,0)) x=true→0≤x∧x<n:=fun i hi x hx=>by
  obtain ⟨d1,d2,d3,d4,d5⟩:=hg.ed.ends es[i] (List.getElem_mem hi)
  rw [← getD_of (d:=(0,0)) hi] at d1 d2 d3 d4 d5
  unfold on at hx
  simp only [Bool.or_eq_true,beq_iff_eq] at hx
  omega
 intro hm
 have:=(hW.comp (hW.stop h2 hend (fun h=>h) (fun _ _ _ h _=>h) (.inl hm))).1
 rw [wkL_length] at this;omega
theorem wkL_all (hg:IsG n es) (h2:Deg2 n es p) (he:e<es.length) (hpe:p e=true) (j:Nat):(j:Int)∈wkL es p e (compL es p e).length↔Rch (eAdj es p) e j:=by
 obtain ⟨a0,w,hW⟩:=wk_walk hg h2 he hpe _ (Nat.le_refl _)
 constructor
 ·intro hj
  obtain ⟨j',e1,_,_,h4,_⟩:=hW.mem _ hj
  obtain rfl:j=j':=by omega
  exact h4
 ·intro hr
  have hm:(j:Int)∈compL es p e:=mem_compL.2 ⟨j,rfl,(eRch_in hr ⟨he,hpe⟩).1,hr⟩
  refine nodup_sup (m:=compL es p e) hW.nd (fun x hx=>?_) (by rw [wkL_length];exact Nat.le_refl _) _ hm
  obtain ⟨i,rfl,h1,_,h3,_⟩:=hW.mem x hx
  exact mem_compL.2 ⟨i,rfl,h1,h3⟩
theorem wk_back (hg:IsG n es) (h2:Deg2 n es p) (he:e<es.length) (hpe:p e=true):(wk es p e (compL es p e).length).1=e:=by
 obtain ⟨T,hT⟩:∃ T,T=(compL es p e).length:=⟨_,rfl⟩
 have hW0:=wk_walk2 hg h2 he hpe 0 (by omega)
 have hW:=wk_walk2 hg h2 he hpe T (by omega)
 obtain ⟨q,q1,q2,q3,q4⟩:=other_left (now:=(wk es p e 0).1) (h2 _ hW0.vn (degB_pos hW0.lt hW0.pn hW0.onv)) hW0.lt
 have q3:q≠e:=q3
 have hT2:2≤T:=by
  have:=nodup_sub (l:=[((e:Nat):Int),(q:Int)]) (m:=compL es p e) (by simp;omega) fun x hx=>by
   simp only [List.mem_cons,List.not_mem_nil,or_false] at hx
   rcases hx with rfl|rfl
   ·exact mem_compL.2 ⟨e,rfl,he,.refl⟩
   ·exact mem_compL.2 ⟨q,rfl,q1,.step .refl ⟨q1,q2,_,hW0.onv,q4⟩⟩
  rw [← hT] at this;simpa using this
 rw [← hT]
 obtain ⟨t,rfl⟩:∃ t,T=t+1:=⟨T-1,by omega⟩
 have hWt:=wk_walk2 hg h2 he hpe t (by omega)
 have hC:((wk es p e (t+1)).1:Int)∈wkL es p e (t+1):=by rw [hT];exact (wkL_all hg h2 he hpe _).2 (by rw [← hT];exact hW.rch)
 have hm:∀ i∈wkL es p e (t+1),∃ j:Nat,i=j∧j<es.length∧p j=true:=fun i hi=>by obtain ⟨j,h1,h2,h3,_⟩:=hW.mem i hi;exact ⟨j,h1,h2,h3⟩
 have onw:on (es.getD (wk es p e (t+1)).1 (0,0)) ((wk es p e t).2:Nat)=true:=hW.onw
 have hne:(wk es p e (t+1)).1≠(wk es p e t).1:=fun h=>by
  obtain ⟨r,r1,r2,r3,r4⟩:=other_left (now:=(wk es p e t).1) (h2 _ hWt.vn (degB_pos hWt.lt hWt.pn hWt.onv)) hWt.lt
  have:=nx_eq (h2 _ hWt.vn (degB_pos hWt.lt hWt.pn hWt.onv)) hWt.lt hWt.pn hWt.onv r1 r2 r3 r4
  rw [wk,this] at h;exact r3 h
 have hd:degC es (wkL es p e (t+1)) (wk es p e t).2=2:=by
  have hle:=degC_le hm hW.nd (wk es p e t).2
  rw [h2 _ hWt.vn (degB_pos hWt.lt hWt.pn hWt.onv)] at hle
  have:2≤degC es (wkL es p e (t+1)) (wk es p e t).2:=by
   have:=nodup_sub (l:=[((wk es p e (t+1)).1:Int),((wk es p e t).1:Int)]) (m:=(wkL es p e (t+1)).filter fun i=>on (es.getD i.toNat (0,0)) (wk es p e t).2) (by simp;omega) fun x hx=>by
    rw [List.mem_filter]
    simp only [List.mem_cons,List.not_mem_nil,or_false] at hx
    rcases hx with rfl|rfl
    ·exact ⟨hC,by rw [Int.toNat_natCast];exact onw⟩
    ·exact ⟨by rw [wkL_succ];simp,by rw [Int.toNat_natCast];exact hWt.onv⟩
   unfold degC;simpa using this
  omega
 have hw:(wk es p e t).2=(es.getD e (0,0)).1.toNat:=by
  have:=hW.par (wk es p e t).2
  rw [hd] at this
  apply Classical.byContradiction
  intro hn
  have:=this.2 fun h=>hn (h.2 rfl)
  omega
 have hone:on (es.getD e (0,0)) ((wk es p e t).2:Nat)=true:=by rw [hw];exact hW0.onw
 have hec:e≠(wk es p e t).1:=fun h=>by
  refine wk_not hg h2 he hpe (t:=t) (by omega) ?_
  rw [← h]
  obtain ⟨s,rfl⟩:∃ s,t=s+1:=⟨t-1,by omega⟩
  unfold wkL
  exact List.mem_map.2 ⟨0,List.mem_range.2 (by omega),rfl⟩
 have:=nx_eq (h2 _ hWt.vn (degB_pos hWt.lt hWt.pn hWt.onv)) hWt.lt hWt.pn hWt.onv he hpe hec hone
 rw [wk];exact this
end
noncomputable def cycW (es:List (Int × Int)) (p:Nat→Bool):Nat→List (List Int)
 | 0=>[]
 | k+1=>cycW es p k++if p k=true∧cLeadB es p k=true then [wkL es p k (compL es p k).length] else []
end Go.Proofs
namespace Go.Proofs
open Go.Abs

variable {H G:AHeap} {v u f:Value} {l m c D:List Int} {es fs:List (Int × Int)} {K:Value→AHeap→Prop} {A A':Nat→Prop} {B:Nat} {ls ms:List (List Int)}

theorem cycW_lens (p:Nat→Bool):∀ k,(cycW es p k).map List.length=lensTo es p k
 | 0=>rfl
 | k+1=>by
  rw [cycW,lensTo,List.map_append,cycW_lens p k]
  split
  ·rw [List.map_singleton,wkL_length]
  ·rfl
end Go.Proofs
namespace Go.Proofs
open Go.Abs

variable {H G:AHeap} {v u f:Value} {l m c D:List Int} {es fs:List (Int × Int)} {K:Value→AHeap→Prop} {p:Nat→Bool} {e:Nat}

end Go.Proofs
namespace Go.Proofs
open Go.Abs

variable {H:AHeap} {v u f:Value} {l m c:List Int} {es fs:List (Int × Int)} {K:Value→AHeap→Prop}

end Go.Proofs
namespace Go.Proofs
open Go.Abs

variable {H G:AHeap} {v u f:Value} {l m c D:List Int} {es fs:List (Int × Int)} {K:Value→AHeap→Prop} {A A':Nat→Prop} {B:Nat} {ls ms cs:List (List Int)}

noncomputable def ldr (es:List (Int × Int)) (p:Nat→Bool) (k:Nat):List Nat:=(List.range k).filter fun i=>p i&&cLeadB es p i
theorem ldr_succ (p:Nat→Bool) (k:Nat):ldr es p (k+1)=ldr es p k++if p k=true∧cLeadB es p k=true then [k] else []:=by
 unfold ldr
 rw [List.range_succ,List.filter_append]
 congr 1
 cases h1:p k <;> cases h2:cLeadB es p k <;> simp [h1,h2]
theorem cycW_ldr (p:Nat→Bool):∀ k,cycW es p k=(ldr es p k).map fun e=>wkL es p e (compL es p e).length
 | 0=>rfl
 | k+1=>by
  rw [cycW,ldr_succ,List.map_append,cycW_ldr p k]
  split <;> simp
theorem mem_ldr {p:Nat→Bool} {k e:Nat}:e∈ldr es p k↔e<k∧p e=true∧cLeadB es p e=true:=by
 unfold ldr;rw [List.mem_filter,List.mem_range,Bool.and_eq_true]
def pnt (O:List Int) (c:List Int):Nat→List Int
 | 0=>O
 | t+1=>(pnt O c t).set (c.getD t 0).toNat (1+((t%2:Nat):Int))
def pntAll (O:List Int) (cs:List (List Int)):Nat→List Int
 | 0=>O
 | i+1=>pnt (pntAll O cs i) (cs.getD i []) (cs.getD i []).length
theorem pnt_length (O c:List Int):∀ t,(pnt O c t).length=O.length
 | 0=>rfl
 | t+1=>by rw [pnt,List.length_set,pnt_length O c t]
theorem pntAll_length (O:List Int) (cs:List (List Int)):∀ i,(pntAll O cs i).length=O.length
 | 0=>rfl
 | i+1=>by rw [pntAll,pnt_length,pntAll_length O cs i]
end Go.Proofs
namespace Go.Proofs
open Go.Abs

variable {H G:AHeap} {v u f:Value} {l m c D S:List Int} {es fs:List (Int × Int)} {K:Value→AHeap→Prop} {cs:List (List Int)}

end Go.Proofs
namespace Go.Proofs
open Go.Abs

variable {H G:AHeap} {v u f:Value} {l m c D:List Int} {es fs:List (Int × Int)} {K:Value→AHeap→Prop} {cs:List (List Int)}

end Go.Proofs
namespace Go.Proofs
open Go.Abs

variable {H G:AHeap} {v u f:Value} {l m c D S:List Int} {es fs:List (Int × Int)} {K:Value→AHeap→Prop} {cs:List (List Int)}

theorem cut_hi {b i:Nat} {K:Value→Prop} (o:Own H b 2 (LI S)) (hi:i≤S.length) (k:∀ v',Ints H v' (S.take i)→K v'):sliceK H 2 (.slice (some ⟨b,0,none⟩) S.length (S.length+1)) none (some (.int .i64 (i:Int))) 1 K:=by
 refine ⟨⟨_,_,o,by simp⟩,by simp,by simp,by simp;omega,?_⟩
 refine k _ (.inr ⟨_,_,by simp [Nat.min_eq_left hi];exact ⟨rfl,rfl⟩,.inr ⟨rfl,fun q x hx=>?_⟩⟩)
 rw [cell_own o]
 have:=List.getElem?_eq_some_iff.1 hx
 obtain ⟨hq,he⟩:=this
 rw [List.length_take] at hq
 rw [List.getElem_take] at he
 show (LI S)[0+0*1+q]?=_
 rw [show 0+0*1+q=q by omega,LI_get,List.getElem?_eq_getElem (by omega),he];rfl
end Go.Proofs
namespace Go.Proofs
open Go.Abs

variable {H G Hb:AHeap} {v u f w:Value} {l m:List Int} {K:Value→AHeap→Prop} {bs:Nat}

theorem l01From_ok (hB:Byts H v l) (hl:l.length≤4096) (k:∀ G,H.le G→Src H H.length G→K (.pointer (some ⟨H.length,0,none⟩)) G):AC Tryz.prog T0 78 [v] H K:=by
 apply F78.ac
 unfold F78.B8 F78.B7
 refine hB.len (pif_t hB.one (newK_f (by simp [hB.one];exact ⟨rfl,rfl⟩) fun H1 l1 n1 o1=>?_))
 unfold F78.B6 F78.L2
 refine ⟨fun x0 x3 x4 G=>v=x0∧.pointer (some ⟨H.length,0,none⟩)=x3∧∃ i:Nat,x4=i∧i≤l.length∧Src H H.length G,fun _ _ x4 _=>l.length-x4.toNat,⟨rfl,rfl,0,rfl,by omega,l1,Nat.le_refl _,v,l,0,_,hB,hl,o1,by omega,by omega⟩,?_⟩
 rintro x0 x3 x4 G ⟨rfl,rfl,i,rfl,hi,hs⟩
 obtain ⟨h1,h2,cv,l',a,x,hB',h4,ho,h6,h7⟩:=id hs
 have fin:F78.B1 K (.pointer (some ⟨H.length,0,none⟩)) G:=by
  unfold F78.B1
  exact k G h1 hs
 unfold F78.B5
 refine (hB.le h1).len (pif_cases (fun hb=>pif_cases (fun hc=>?_) fun _=>fin) fun _=>fin)
 have hlt:i<l.length:=by have:=of_decide_eq_true hb;omega
 unfold F78.B4
 refine nilP_mk (asP_mk (ldI_own ho rfl ((hB.le h1).rd (by omega) (by omega) fun z z0 z1=>nilP_mk (asP_mk (stK_1 ho (by simp) rfl fun G2 b2 o2=>?_)))))
 unfold F78.B3
 rw [wrap_id (by omega) (by omega)]
 exact ⟨⟨rfl,rfl,i+1,by omega,by omega,Src.put h1 h2 hB' h4 b2 o2 h6 h7⟩,by simp;omega⟩
theorem Src.lt (h:Src Hb bs H):bs<H.length:=by
 obtain ⟨_,_,cv,l,a,x,_,_,ho,_⟩:=h
 exact ho.lt
theorem sl_lo {b N r:Nat} {cs:List Value} {K:Value→Prop} (o:Own G b 2 cs) (hl:N≤cs.length) (hr:r≤N) (k:K (.slice (some ⟨b,r,none⟩) (N-r) (N-r+1))):sliceK G 2 (.slice (some ⟨b,0,none⟩) N (N+1)) (some (.int .i64 (r:Nat))) none 1 K:=
 ⟨⟨_,_,o,by simpa using hl⟩,by simp,by simp;omega,by simp,by simpa using k⟩
theorem l01DrawOrder_ok {n:Int} (hs:Src Hb bs H) (h1:n≤1000) (k:∀ v' D G,Kb bs H G→Src Hb bs G→Fresh H.length G v' 2 1 (LI D)→D.length=n.toNat→(∀ x∈D,0≤x∧x<n)→K v' G) :
 AC Tryz.prog T0 184 [.pointer (some ⟨bs,0,none⟩),.int .i64 n] H K:=by
 have hbs:=hs.lt
 apply F184.ac
 unfold F184.B9 F184.B8
 refine newK_f rfl fun H1 l1 n1 o1=>?_
 unfold F184.B7 F184.L2
 refine ⟨fun x0 x1 x5 x6 G=>.pointer (some ⟨bs,0,none⟩)=x0∧n=x1∧Kb bs H G∧Src Hb bs G∧∃ (i b:Nat) (D:List Int),x6=i∧i≤n.toNat∧H.length≤b∧x5=.slice (some ⟨b,0,none⟩) i (i+1)∧D.length=i∧Own G b 2 (LI D)∧∀ x∈D,0≤x∧x<n,fun _ _ _ x6 _=>n.toNat-x6.toNat,
  ⟨rfl,rfl,.of_le l1,hs.le l1,0,H.length,[],rfl,by omega,Nat.le_refl _,rfl,rfl,o1,by simp⟩,?_⟩
 rintro x0 x1 x5 x6 G ⟨rfl,rfl,kb,s,i,b,D,rfl,hi,hb,rfl,hD,ho,hr⟩
 unfold F184.B6
 refine pif_cases (fun hc=>?_) fun hc=>?_
 ·have hlt:i<n.toNat:=by have:=of_decide_eq_true hc;omega
  unfold F184.B5
  rw [wrap_id (by omega) (by omega)]
  refine l01Next_ok s fun r G1 k1 s1 r0 r1 _=>asI_mk ?_
  obtain ⟨r,rfl⟩:∃ r':Nat,r=r':=⟨r.toNat,by omega⟩
  have hri:r≤i:=by have:=r1 (by omega);omega
  have o1:Own G1 b 2 (LI D):=k1.old b _ (by omega) ho
  have kb1:=kb.trans k1
  have lo:∀ {G':AHeap} {K:Value→Prop},Own G' b 2 (LI D)→K (.slice (some ⟨b,r,none⟩) (i-r) (i-r+1))→sliceK G' 2 (.slice (some ⟨b,0,none⟩) i (i+1)) (some (.int .i64 (r:Nat))) none 1 K:=fun o k=>sl_lo o (by simp [hD]) hri k
  have hi1:sliceK G1 2 (.slice (some ⟨b,0,none⟩) i (i+1)) none (some (.int .i64 (r:Nat))) 1 (fun v1=>Ints G1 v1 (D.take r)):=by
   have:=cut_hi (K:=fun v'=>Ints G1 v' (D.take r)) (i:=r) o1 (by omega) fun v' hv'=>hv'
   rwa [hD] at this
  have fin:∀ v12 G13,G1.le G13→Fresh H.length G13 v12 2 1 (LI (D.take r++[(i:Int)]++D.drop r))→F184.B3 K (fun z0 z1 z5 z6 G'=>(.pointer (some ⟨bs,0,none⟩)=z0∧n=z1∧Kb bs H G'∧Src Hb bs G'∧∃ (i b:Nat) (D:List Int),z6=i∧i≤n.toNat∧H.length≤b∧z5=.slice (some ⟨b,0,none⟩) i (i+1)∧D.length=i∧Own G' b 2 (LI D)∧∀ x∈D,0≤x∧x<n)∧n.toNat-z6.toNat<n.toNat-(i:Int).toNat) (.pointer (some ⟨bs,0,none⟩)) n v12 i G13:=by
   intro v12 G13 l13 f13
   unfold F184.B3
   rw [wrap_id (by omega) (by omega)]
   have hlen:(D.take r++[(i:Int)]++D.drop r).length=i+1:=by simp;omega
   rcases f13 with ⟨h0,_⟩|⟨b',c,hb',rfl,o',hc'⟩
   ·have:=congrArg List.length h0
    rw [List.length_map,hlen,List.length_nil] at this;omega
   ·have hcc:c=i+1:=by rw [List.length_map,hlen] at hc';omega
    subst hcc
    refine ⟨⟨rfl,rfl,kb1.trans (.of_le l13),s1.le l13,i+1,b',_,by omega,by omega,hb',rfl,hlen,o',fun x hx=>?_⟩,by simp;omega⟩
    rcases List.mem_append.1 hx with hx|hx
    ·rcases List.mem_append.1 hx with hx|hx
     ·exact hr x (List.mem_of_mem_take hx)
     ·rw [List.mem_singleton.1 hx];omega
    ·exact hr x (List.mem_of_mem_drop hx)
  have cells:∀ {G':AHeap},Own G' b 2 (LI D)→cellsAt G' (.slice (some ⟨b,r,none⟩) (i-r) (i-r+1)) 1 (i-r) (LI (D.drop r)):=fun {G'} o=>by
   refine ⟨by simp [hD],_,_,rfl,.inr ⟨b,r,rfl,fun q x hx=>?_⟩⟩
   rw [cell_own o]
   rw [List.getElem?_map,List.getElem?_drop] at hx
   rw [List.getElem?_map];exact hx
  have hG1:H.length≤G1.length:=kb1.len
  have last:∀ v9 G10 m0,G1.le G10→G1.length≤m0→m0≤G10.length→Fresh m0 G10 v9 2 1 (LI (D.take r++[(i:Int)]))→apK T0 2 G10 v9 (.slice (some ⟨b,r,none⟩) (i-r) (i-r+1)) (fun v12 H13=>F184.B3 K (fun z0 z1 z5 z6 G'=>(.pointer (some ⟨bs,0,none⟩)=z0∧n=z1∧Kb bs H G'∧Src Hb bs G'∧∃ (i b:Nat) (D:List Int),z6=i∧i≤n.toNat∧H.length≤b∧z5=.slice (some ⟨b,0,none⟩) i (i+1)∧D.length=i∧Own G' b 2 (LI D)∧∀ x∈D,0≤x∧x<n)∧n.toNat-z6.toNat<n.toNat-(i:Int).toNat) (.pointer (some ⟨bs,0,none⟩)) n v12 i H13):=by
   intro v9 G10 m0 l10 hm1 hm' f10
   have hm:H.length≤m0:=Nat.le_trans hG1 hm1
   refine f10.sl.app E_int (by decide) hm' (cells (o1.le l10)) (by simp;omega) (fun h0=>?_) fun v12 G13 k13 _ _ f13=>?_
   ·have hd:D.drop r=[]:=List.map_eq_nil_iff.1 h0
    refine fin v9 G10 l10 ?_
    rw [hd,List.append_nil]
    exact f10.less hm
   ·refine fin v12 G13 (k13.le l10 hm1) ?_
    have:=f13.less hm
    simpa using this
  unfold F184.B4
  obtain ⟨a1,a2,a3,a4,a5⟩:=hi1
  refine ⟨a1,a2,a3,a4,lo o1 ⟨l01Own_ok a5 (by rw [List.length_take];omega) fun v3 G4 l4 f4=>⟨lo (o1.le l4) ⟨rfl,rfl⟩,?_⟩,newK_f rfl fun G15 l15 n15 o15=>l01Own_ok (a5.le l15) (by rw [List.length_take];omega) fun v16 G17 l17 f17=>⟨lo (o1.le (AHeap.le_trans l15 l17)) ⟨rfl,rfl⟩,?_⟩⟩⟩
  ·refine f4.sl.pushN E_int (by decide) l4.1 (n:=1) (ys:=[.int .i64 (i:Nat)]) rfl rfl (by simp;omega) (by simp) fun v9 G10 k10 _ _ f10=>?_
   have l10:=k10.le l4 (Nat.le_refl _)
   exact ⟨lo (o1.le l10) ⟨rfl,rfl⟩,last v9 G10 G1.length l10 (Nat.le_refl _) l10.1 (by simpa using f10)⟩
  ·have hcs:cellsAt G17 (.slice (some ⟨G1.length,0,none⟩) 1 (1+1)) 1 1 [.int .i64 (i:Nat)]:=cellsAt_row (o15.le l17) rfl
   refine f17.sl.app E_int (by decide) l17.1 hcs (by simp;omega) (fun h=>by cases h) fun v20 G21 k21 _ _ f21=>?_
   have l21:=AHeap.le_trans l15 (k21.le l17 (Nat.le_refl _))
   exact ⟨lo (o1.le l21) ⟨rfl,rfl⟩,last v20 G21 G15.length l21 l15.1 (k21.le l17 (Nat.le_refl _)).1 (by simpa using f21)⟩
 ·have hie:i=n.toNat:=by have:=of_decide_eq_false hc;omega
  subst hie
  unfold F184.B1
  exact k _ D G kb s (.inr ⟨b,n.toNat,hb,rfl,ho,by simp [hD]⟩) hD hr
end Go.Proofs
namespace Go.Proofs
open Go.Abs

variable {B H G G':AHeap} {b N:Nat} {L S M:List (Int × Int)} {cmp:Value} {c:(Int × Int)→(Int × Int)→Int} {dom:(Int × Int)→Prop} {K:Value→AHeap→Prop}

end Go.Proofs
namespace Go.Proofs
open Go.Abs

variable {B H G G':AHeap} {b N:Nat} {L S M:List (Int × Int)} {cmp:Value} {c:(Int × Int)→(Int × Int)→Int} {dom:(Int × Int)→Prop} {K:Value→AHeap→Prop}

end Go.Proofs
namespace Go.Proofs
open Go.Abs

variable {B H G G':AHeap} {b N:Nat} {L S M:List (Int × Int)} {cmp:Value} {c:(Int × Int)→(Int × Int)→Int} {dom:(Int × Int)→Prop} {K:Value→AHeap→Prop}

end Go.Proofs
namespace Go.Proofs
open Go.Abs

variable {B H G G':AHeap} {b N:Nat} {L S M:List (Int × Int)} {cmp:Value} {c:(Int × Int)→(Int × Int)→Int} {dom:(Int × Int)→Prop} {K:Value→AHeap→Prop}

end Go.Proofs
