/- Contracts and plain mathematics for a law, merged. -/
import Derived.Laws.Bits64
import Derived.StringKeys
import Derived.Test.YtngacbdogjmpaaaGreatDoorX06G
import Derived.Test.YtngacbdogjmpaaaGreatDoorX06P3
set_option linter.unusedVariables false
set_option linter.unusedSimpArgs false
set_option maxRecDepth 100000
namespace Go.Proofs
open Go.Abs

structure IsEd (n:Int) (es:List (Int × Int)):Prop where
 lo:2≤n
 hi:n≤20
 even:n%2=0
 len:(es.length:Int)=3*n/2
 ends:∀ e∈es,0≤e.1∧e.1≤n-1∧0≤e.2∧e.2≤n-1∧e.1≠e.2
def bump1 (cs:List Int) (v:Int):List Int:=cs.set v.toNat (cs.getD v.toNat 0+1)
def bump (cs:List Int) (e:Int × Int):List Int:=bump1 (bump1 cs e.1) e.2
def counts (n:Int) (es:List (Int × Int)):List Int:=es.foldl bump (List.replicate n.toNat 0)
def ltE (a b:Int × Int):Prop:=a.1<b.1∨a.1=b.1∧a.2<b.2
instance (a b:Int × Int):Decidable (ltE a b):=by unfold ltE;infer_instance
def Srt (es:List (Int × Int)):Prop:=∀ i,i+1<es.length→¬ ltE (es.getD (i+1) (0,0)) (es.getD i (0,0))
structure IsG (n:Int) (es:List (Int × Int)):Prop where
 ed:IsEd n es
 up:∀ e∈es,e.1<e.2
 srt:Srt es
 cub:∀ c∈counts n es,c=3
noncomputable instance (n:Int) (es:List (Int × Int)):Decidable (IsG n es):=Classical.propDecidable _
noncomputable instance (n:Int) (es:List (Int × Int)):Decidable (IsEd n es):=Classical.propDecidable _
def IsS (l:List Int) (n:Int):Prop:=∀ i,i<l.length→0≤l.getD i 0∧l.getD i 0≤n-1∧(0<i→l.getD (i-1) 0<l.getD i 0)
noncomputable instance (l:List Int) (n:Int):Decidable (IsS l n):=Classical.propDecidable _
def Cub (n:Int) (es:List (Int × Int)):Prop:=∀ c∈counts n es,c=3
noncomputable instance (n:Int) (es:List (Int × Int)):Decidable (Cub n es):=Classical.propDecidable _
theorem bump1_length (cs:List Int) (v:Int):(bump1 cs v).length=cs.length:=by simp [bump1]
theorem bump_length (cs:List Int) (e:Int × Int):(bump cs e).length=cs.length:=by simp [bump,bump1_length]
theorem foldl_bump_length:∀ (es:List (Int × Int)) (cs:List Int),(es.foldl bump cs).length=cs.length
 | [],cs=>rfl
 | e::es,cs=>by rw [List.foldl_cons,foldl_bump_length es,bump_length]
theorem counts_length (n:Int) (es:List (Int × Int)):(counts n es).length=n.toNat:=by simp [counts,foldl_bump_length]
theorem counts_take (n:Int) (es:List (Int × Int)) {i:Nat} (h:i<es.length):counts n (es.take (i+1))=bump (counts n (es.take i)) es[i]:=by
 unfold counts;rw [List.take_succ_eq_append_getElem h,List.foldl_append];rfl
theorem bump1_le {cs:List Int} {B:Int} (h:∀ c∈cs,0≤c∧c≤B) (v:Int):∀ c∈bump1 cs v,0≤c∧c≤B+1:=by
 intro c hc
 unfold bump1 at hc
 by_cases hv:v.toNat<cs.length
 ·rcases List.mem_or_eq_of_mem_set hc with hc|rfl
  ·have:=h c hc;omega
  ·have:=h cs[v.toNat] (List.getElem_mem hv)
   rw [getD_of hv];omega
 ·rw [List.set_eq_of_length_le (by omega)] at hc
  have:=h c hc;omega
theorem foldl_bump_le:∀ (es:List (Int × Int)) (cs:List Int) (B:Int),(∀ c∈cs,0≤c∧c≤B)→∀ c∈es.foldl bump cs,0≤c∧c≤B+2*es.length
 | [],cs,B,h,c,hc=>by have:=h c hc;simp;omega
 | e::es,cs,B,h,c,hc=>by
  have:=foldl_bump_le es (bump cs e) (B+2) (fun c hc=>by have:=bump1_le (bump1_le h e.1) e.2 c hc;omega) c hc
  simp;omega
theorem counts_le (n:Int) (es:List (Int × Int)):∀ c∈counts n es,0≤c∧c≤2*es.length:=by
 intro c hc
 have:=foldl_bump_le es _ 0 (by intro c hc;rw [List.mem_replicate] at hc;omega) c hc
 omega
end Go.Proofs
namespace Go.Proofs
open Go.Abs

variable {H:AHeap} {v u f:Value} {l m:List Int} {es fs:List (Int × Int)} {K:Value→AHeap→Prop}

theorem within_ok {n a b:Int} (k:K (.bool (decide (a≤n∧n≤b))) H):AC Tryz.prog T0 114 [.int .i64 n,.int .i64 a,.int .i64 b] H K:=by
 apply F114.ac
 unfold F114.B2 F114.B1
 refine pif_cases (fun h=>?_) fun h=>?_
 ·have h:=of_decide_eq_true h
  simpa [h] using k
 ·have h:=of_decide_eq_false h
  simpa [h] using k
theorem l01In_ok {n a b:Int} (k:K (.bool (decide (a≤n∧n≤b))) H):AC Tryz.prog T0 91 [.int .i64 n,.int .i64 a,.int .i64 b] H K:=by
 apply F91.ac
 unfold F91.B2 F91.B1
 refine pif_cases (fun h=>?_) fun h=>?_
 ·have h:=of_decide_eq_true h
  simpa [h] using k
 ·have h:=of_decide_eq_false h
  have h:¬ a≤n:=by omega
  simpa [h] using k
theorem isSize_ok {n:Int} (k:K (.bool (decide (2≤n∧n≤20∧n%2=0))) H):AC Tryz.prog T0 118 [.int .i64 n] H K:=by
 apply F118.ac
 unfold F118.B2 F118.B1
 refine within_ok (asB_mk (pif_cases (fun h=>?_) fun h=>?_))
 ·have h:=of_decide_eq_true h
  have e:Int.tmod n 2=n%2:=Int.tmod_eq_emod_of_nonneg (by omega)
  rw [e]
  have:(n%2==0)=decide (2≤n∧n≤20∧n%2=0):=by
   by_cases h2:n%2=0 <;> simp [h2,h]
  rw [this];exact k
 ·have h:=of_decide_eq_false h
  rw [decide_eq_false (fun h2=>h ⟨h2.1,h2.2.1⟩)] at k;exact k
theorem lengthE_ok (h:Edges H v es) (k:K (.int .i64 es.length) H):AC Tryz.prog T0 115 [v] H K:=by
 apply F115.ac
 unfold F115.B2 F115.B1
 exact h.len k
def Cl (H:AHeap) (f x:Value) (b:Bool):Prop:=∀ G,H.le G→∀ K:Value→AHeap→Prop,(∀ G',G.le G'→K (.bool b) G')→callV Tryz.prog T0 f [x] G K
theorem callV_mk {g:Nat} {xs ys args:List Value} (h:AC Tryz.prog T0 g (xs++args++ys) H K):callV Tryz.prog T0 (.func (.func g) ⟨xs⟩ ⟨ys⟩) args H K:=h
def ve (e:Int × Int):Value:=.agg ⟨[.int .i64 e.1,.int .i64 e.2]⟩
theorem indexE_ok {p:Int × Int→Bool} (h:Edges H v es) (hl:es.length≤4611686018427387904) (hf:∀ e∈es,Cl H f (ve e) (p e)) (k:∀ r G,H.le G→decide (r≥0)=es.any p→K (.int .i64 r) G) :
 AC Tryz.prog T0 172 [v,f] H K:=by
 apply F172.ac
 unfold F172.B9 F172.B8
 refine h.len ?_
 unfold F172.L2
 refine ⟨fun x0 x1 x7 x8 G=>x0=v∧x1=f∧x7=es.length∧0≤x8∧x8≤es.length∧H.le G∧∀ i:Nat,(i:Int)<x8→p (es.getD i (0,0))=false,fun _ _ _ x8 _=>es.length-x8.toNat,⟨rfl,rfl,rfl,by omega,by omega,AHeap.le_refl _,fun i hi=>absurd hi (by omega)⟩,?_⟩
 rintro x0 x1 x7 x8 G ⟨rfl,rfl,rfl,h0,h1,hG,hp⟩
 unfold F172.B7
 refine pif_cases (fun hb=>?_) fun hb=>?_
 ·have hlt:x8<es.length:=of_decide_eq_true hb
  obtain ⟨n,rfl⟩:∃ n:Nat,x8=n:=⟨x8.toNat,by omega⟩
  have hn:n<es.length:=by omega
  unfold F172.B6 F172.B5
  obtain ⟨b,o,hk,c1,c2⟩:=(h.le hG).idx h0 hlt
  refine hk _ (ldI_mk c1 (ldI_mk c2 ?_))
  simp only [Int.toNat_natCast,getD_of hn]
  refine hf es[n] (List.getElem_mem hn) G hG _ fun G2 hG2=>asB_mk (pif_cases (fun hb=>?_) fun hb=>?_)
  ·unfold F172.B4
   refine k _ _ (AHeap.le_trans hG hG2) ?_
   rw [List.any_eq_true.2 ⟨es[n],List.getElem_mem hn,hb⟩];simp
  ·unfold F172.B3
   rw [wrap_id (by omega) (by omega)]
   refine ⟨⟨rfl,rfl,rfl,by omega,by omega,AHeap.le_trans hG hG2,fun i hi=>?_⟩,by simp;omega⟩
   by_cases he:i=n
   ·subst he;rw [getD_of hn];exact hb
   ·exact hp i (by omega)
 ·have hge:¬ x8<es.length:=of_decide_eq_false hb
  unfold F172.B1
  refine k _ _ hG ?_
  have:es.any p=false:=by
   rw [List.any_eq_false]
   intro e he
   obtain ⟨i,hi,rfl⟩:=List.getElem_of_mem he
   have:=hp i (by omega)
   rw [getD_of hi] at this;simp [this]
  rw [this];simp
theorem containsE_ok {p:Int × Int→Bool} (h:Edges H v es) (hl:es.length≤4611686018427387904) (hf:∀ e∈es,Cl H f (ve e) (p e)) (k:∀ G,H.le G→K (.bool (es.any p)) G) :
 AC Tryz.prog T0 120 [v,f] H K:=by
 apply F120.ac
 unfold F120.B2 F120.B1
 refine indexE_ok h hl hf fun r G hG hr=>asI_mk ?_
 rw [hr];exact k G hG
theorem areAllE_ok {p:Int × Int→Bool} (h:Edges H v es) (hl:es.length≤4611686018427387904) (hf1:f.oneCell'=true) (hf:∀ e∈es,Cl H f (ve e) (p e)) (k:∀ G,H.le G→K (.bool (es.all p)) G) :
 AC Tryz.prog T0 62 [v,f] H K:=by
 apply F62.ac
 unfold F62.B2
 refine pif_t hf1 (newK_f (by simp [hf1]) fun H1 l1 n1 o1=>?_)
 unfold F62.B1
 refine containsE_ok (p:=fun e=>!p e) (h.le l1) hl (fun e he=>?_) fun G hG=>asB_mk ?_
 ·intro G hG K k
  refine callV_mk ?_
  apply F121.ac
  unfold F121.B2
  refine newK_f rfl fun H2 l2 n2 o2=>?_
  unfold F121.B1
  refine asP_mk (ld1_own (l2.2 _ _ (hG.2 _ _ o1)) rfl (ldI_own o2 rfl (ldI_own o2 rfl ?_)))
  exact hf e he _ (AHeap.le_trans l1 (AHeap.le_trans hG l2)) _ fun G' hG'=>asB_mk (k _ (AHeap.le_trans l2 hG'))
 ·have:=k G (AHeap.le_trans l1 hG)
  rw [show (!es.any fun e=>!p e)=es.all p by rw [List.all_eq_not_any_not]]
  exact this
theorem indexI_ok {p:Int→Bool} (h:Ints H v l) (hl:l.length≤4611686018427387904) (hf:∀ e∈l,Cl H f (.int .i64 e) (p e)) (k:∀ r G,H.le G→decide (r≥0)=l.any p→K (.int .i64 r) G) :
 AC Tryz.prog T0 205 [v,f] H K:=by
 apply F205.ac
 unfold F205.B9 F205.B8
 refine h.len ?_
 unfold F205.L2
 refine ⟨fun x0 x1 x7 x8 G=>x0=v∧x1=f∧x7=l.length∧0≤x8∧x8≤l.length∧H.le G∧∀ i:Nat,(i:Int)<x8→p (l.getD i 0)=false,fun _ _ _ x8 _=>l.length-x8.toNat,⟨rfl,rfl,rfl,by omega,by omega,AHeap.le_refl _,fun i hi=>absurd hi (by omega)⟩,?_⟩
 rintro x0 x1 x7 x8 G ⟨rfl,rfl,rfl,h0,h1,hG,hp⟩
 unfold F205.B7
 refine pif_cases (fun hb=>?_) fun hb=>?_
 ·have hlt:x8<l.length:=of_decide_eq_true hb
  obtain ⟨n,rfl⟩:∃ n:Nat,x8=n:=⟨x8.toNat,by omega⟩
  have hn:n<l.length:=by omega
  unfold F205.B6 F205.B5
  refine (h.le hG).rd h0 hlt ?_
  simp only [Int.toNat_natCast,getD_of hn]
  refine hf l[n] (List.getElem_mem hn) G hG _ fun G2 hG2=>asB_mk (pif_cases (fun hb=>?_) fun hb=>?_)
  ·unfold F205.B4
   refine k _ _ (AHeap.le_trans hG hG2) ?_
   rw [List.any_eq_true.2 ⟨l[n],List.getElem_mem hn,hb⟩];simp
  ·unfold F205.B3
   rw [wrap_id (by omega) (by omega)]
   refine ⟨⟨rfl,rfl,rfl,by omega,by omega,AHeap.le_trans hG hG2,fun i hi=>?_⟩,by simp;omega⟩
   by_cases he:i=n
   ·subst he;rw [getD_of hn];exact hb
   ·exact hp i (by omega)
 ·have hge:¬ x8<l.length:=of_decide_eq_false hb
  unfold F205.B1
  refine k _ _ hG ?_
  have:l.any p=false:=by
   rw [List.any_eq_false]
   intro e he
   obtain ⟨i,hi,rfl⟩:=List.getElem_of_mem he
   have:=hp i (by omega)
   rw [getD_of hi] at this;simp [this]
  rw [this];simp
theorem containsI_ok {p:Int→Bool} (h:Ints H v l) (hl:l.length≤4611686018427387904) (hf:∀ e∈l,Cl H f (.int .i64 e) (p e)) (k:∀ G,H.le G→K (.bool (l.any p)) G) :
 AC Tryz.prog T0 174 [v,f] H K:=by
 apply F174.ac
 unfold F174.B2 F174.B1
 refine indexI_ok h hl hf fun r G hG hr=>asI_mk ?_
 rw [hr];exact k G hG
theorem areAllI_ok {p:Int→Bool} (h:Ints H v l) (hl:l.length≤4611686018427387904) (hf1:f.oneCell'=true) (hf:∀ e∈l,Cl H f (.int .i64 e) (p e)) (k:∀ G,H.le G→K (.bool (l.all p)) G) :
 AC Tryz.prog T0 123 [v,f] H K:=by
 apply F123.ac
 unfold F123.B2
 refine pif_t hf1 (newK_f (by simp [hf1]) fun H1 l1 n1 o1=>?_)
 unfold F123.B1
 refine containsI_ok (p:=fun e=>!p e) (h.le l1) hl (fun e he=>?_) fun G hG=>asB_mk ?_
 ·intro G hG K k
  refine callV_mk ?_
  apply F175.ac
  unfold F175.B2
  unfold F175.B1
  refine asP_mk (ld1_own (hG.2 _ _ o1) rfl ?_)
  exact hf e he _ (AHeap.le_trans l1 hG) _ fun G' hG'=>asB_mk (k _ hG')
 ·have:=k G (AHeap.le_trans l1 hG)
  rw [show (!l.any fun e=>!p e)=l.all p by rw [List.all_eq_not_any_not]]
  exact this
end Go.Proofs
namespace Go.Proofs
open Go.Abs

variable {H:AHeap} {v u f:Value} {l m:List Int} {es fs:List (Int × Int)} {K:Value→AHeap→Prop}

def cmpI (a b:Int):Int:=if a<b then -1 else if a>b then 1 else 0
def cmpE (a b:Int × Int):Int:=if cmpI a.1 b.1≠0 then cmpI a.1 b.1 else cmpI a.2 b.2
theorem cmpE_neg (a b:Int × Int):cmpE a b<0↔ltE a b:=by
 unfold cmpE cmpI ltE
 repeat' split
 all_goals omega
theorem edges_one' {H:AHeap} {v:Value} {l:List (Int × Int)} (h:Edges H v l):v.oneCell'=true:=by
 rcases h with ⟨rfl,_⟩|⟨a,c,rfl,_⟩ <;> rfl
theorem isNaN_ok {a:Int} (k:K (.bool false) H):AC Tryz.prog T0 204 [.int .i64 a] H K:=by
 apply F204.ac
 unfold F204.B2 F204.B1
 simpa using k
theorem cmpCompare_ok {a b:Int} (k:K (.int .i64 (cmpI a b)) H):AC Tryz.prog T0 173 [.int .i64 a,.int .i64 b] H K:=by
 apply F173.ac
 unfold F173.B14 F173.B13
 refine isNaN_ok (asB_mk ?_)
 unfold F173.B12
 refine isNaN_ok (asB_mk ?_)
 unfold F173.B11
 refine pif_f rfl ?_
 unfold F173.B7
 refine pif_f rfl ?_
 unfold F173.B5
 unfold cmpI at k
 refine pif_cases (fun h=>?_) fun h=>?_
 ·unfold F173.B4;rw [if_pos (of_decide_eq_true h)] at k;exact k
 ·rw [if_neg (of_decide_eq_false h)] at k
  unfold F173.B3
  refine pif_cases (fun h=>?_) fun h=>?_
  ·unfold F173.B2;rw [if_pos (of_decide_eq_true h)] at k;exact k
  ·unfold F173.B1;rw [if_neg (of_decide_eq_false h)] at k;exact k
theorem compare2_ok {a b c d:Int} (h:Ints H v [a,b]) (g:Ints H u [c,d]) (k:K (.int .i64 (cmpE (a,b) (c,d))) H):AC Tryz.prog T0 122 [v,u] H K:=by
 apply F122.ac
 unfold F122.B15 F122.B14
 refine h.len ?_
 unfold F122.L4
 refine ⟨fun x0 x1 x9 x10 x11 G=>x0=v∧x1=u∧x9=v∧x10=2∧G=H∧(x11=0∨(x11=1∧cmpI a c=0)∨(x11=2∧cmpI a c=0∧cmpI b d=0)),fun _ _ _ _ x11 _=>2-x11.toNat,⟨rfl,rfl,rfl,rfl,rfl,.inl rfl⟩,?_⟩
 rintro x0 x1 x9 x10 x11 G ⟨rfl,rfl,rfl,rfl,rfl,p⟩
 unfold F122.B13
 rcases p with rfl|⟨rfl,p⟩|⟨rfl,p,q⟩
 ·refine pif_t rfl ?_
  unfold F122.B12
  refine h.rd (by decide) (by simp) ?_
  unfold F122.B11
  refine g.len (pif_f rfl ?_)
  unfold F122.B9
  refine g.rd (by decide) (by simp) ?_
  unfold F122.B8
  refine cmpCompare_ok (asI_mk ?_)
  unfold F122.B7
  refine pif_cases (fun hb=>?_) fun hb=>?_
  ·unfold F122.B6
   have hb:cmpI a c≠0:=by simpa using hb
   unfold cmpE at k
   rw [if_pos hb] at k;exact k
  ·unfold F122.B5
   exact ⟨⟨rfl,rfl,rfl,rfl,rfl,.inr (.inl ⟨rfl,by simpa using hb⟩)⟩,show 2-(IntKind.i64.wrap (0+1)).toNat<2-(0:Int).toNat by decide⟩
 ·refine pif_t rfl ?_
  unfold F122.B12
  refine h.rd (by decide) (by simp) ?_
  unfold F122.B11
  refine g.len (pif_f rfl ?_)
  unfold F122.B9
  refine g.rd (by decide) (by simp) ?_
  unfold F122.B8
  refine cmpCompare_ok (asI_mk ?_)
  unfold cmpE at k
  rw [if_neg (by simpa using p)] at k
  unfold F122.B7
  refine pif_cases (fun hb=>?_) fun hb=>?_
  ·unfold F122.B6
   exact k
  ·unfold F122.B5
   exact ⟨⟨rfl,rfl,rfl,rfl,rfl,.inr (.inr ⟨rfl,p,by simpa using hb⟩)⟩,show 2-(IntKind.i64.wrap (1+1)).toNat<2-(1:Int).toNat by decide⟩
 ·refine pif_f rfl ?_
  unfold F122.B3
  refine h.len (g.len (pif_f rfl ?_))
  unfold F122.B1
  unfold cmpE at k
  rw [if_neg (by simpa using p)] at k
  simp only [q] at k;exact k
theorem own_ints {b:Nat} {e:TypeId} {l:List Int} {c:Nat} (h:Own H b e (LI l)):Ints H (.slice (some ⟨b,0,none⟩) l.length c) l:=
 .inr ⟨_,_,rfl,.inr ⟨rfl,fun i x hx=>by rw [h.cell];simp [hx]⟩⟩
theorem compareEdges_ok {a b:Int × Int} (k:∀ G,H.le G→K (.int .i64 (cmpE a b)) G):AC Tryz.prog T0 65 [ve a,ve b] H K:=by
 apply F65.ac
 unfold F65.B2
 refine newK_f rfl fun H1 l1 n1 o1=>newK_f rfl fun H2 l2 n2 o2=>?_
 unfold F65.B1
 exact compare2_ok (own_ints (l:=[a.1,a.2]) (l2.2 _ _ o1)) (own_ints (l:=[b.1,b.2]) o2) (asI_mk (k _ (AHeap.le_trans l1 l2)))
theorem isSorted_ok (h:Edges H v es) (hl:es.length≤4611686018427387904) [Decidable (Srt es)] (k:∀ G,H.le G→K (.bool (decide (Srt es))) G):AC Tryz.prog T0 64 [v,.func (.func 65) ⟨[]⟩ ⟨[]⟩] H K:=by
 apply F64.ac
 unfold F64.B8 F64.B7
 refine h.len ?_
 rw [wrap_id (by omega) (by omega)]
 unfold F64.L2
 refine ⟨fun x0 x1 x5 G=>x0=v∧x1=.func (.func 65) ⟨[]⟩ ⟨[]⟩∧-1≤x5∧x5<es.length∧H.le G∧∀ i,x5≤(i:Nat)→i+1<es.length→¬ ltE (es.getD (i+1) (0,0)) (es.getD i (0,0)),fun _ _ x5 _=>(x5+1).toNat,⟨rfl,rfl,by omega,by omega,AHeap.le_refl _,fun i hi hi2=>absurd hi (by omega)⟩,?_⟩
 rintro x0 x1 x5 G ⟨rfl,rfl,h0,h1,hG,hp⟩
 unfold F64.B6
 refine pif_cases (fun hb=>?_) fun hb=>?_
 ·have hgt:x5>0:=of_decide_eq_true hb
  obtain ⟨n,rfl⟩:∃ n:Nat,x5=(n:Int)+1:=⟨(x5-1).toNat,by omega⟩
  unfold F64.B5
  rw [wrap_id (by omega) (by omega)]
  obtain ⟨b,o,hk,c1,c2⟩:=(h.le hG).idx (show (0:Int)≤(n:Int)+1 by omega) h1
  obtain ⟨b',o',hk',c1',c2'⟩:=(h.le hG).idx (show (0:Int)≤(n:Int)+1-1 by omega) (by omega)
  refine hk _ (ldI_mk c1 (ldI_mk c2 (hk' _ (ldI_mk c1' (ldI_mk c2' (callV_mk (compareEdges_ok (a:=es.getD (((n:Int)+1).toNat) (0,0)) (b:=es.getD (((n:Int)+1-1).toNat) (0,0)) fun G2 hG2=>asI_mk ?_)))))))
  rw [show ((n:Int)+1).toNat=n+1 by omega,show ((n:Int)+1-1).toNat=n by omega]
  refine pif_cases (fun hb=>?_) fun hb=>?_
  ·unfold F64.B4
   have:=k _ (AHeap.le_trans hG hG2)
   rw [decide_eq_false (fun hs=>hs n (by omega) ((cmpE_neg _ _).1 (of_decide_eq_true hb)))] at this;exact this
  ·unfold F64.B3
   rw [wrap_id (by omega) (by omega)]
   refine ⟨⟨rfl,rfl,by omega,by omega,AHeap.le_trans hG hG2,fun i hi hi2=>?_⟩,show ((n:Int)+1-1+1).toNat<((n:Int)+1+1).toNat by omega⟩
   by_cases he:i=n
   ·subst he;exact fun hs=>of_decide_eq_false hb ((cmpE_neg _ _).2 hs)
   ·exact hp i (by omega) hi2
 ·have hle:¬ x5>0:=of_decide_eq_false hb
  unfold F64.B1
  have:=k _ hG
  rw [decide_eq_true (show Srt es from fun i hi=>hp i (by omega) hi)] at this;exact this
theorem mkR_int {bytes:Nat} {e:TypeId} {zs:List Value} {n:Int} {K:Value→AHeap→Prop} (h0:0≤n) (h1:n≤4294967296) (h2:bytes≤1024)
 (h:∀ G,H.le G→G.length=H.length+1→Own G H.length e (List.replicate n.toNat zs).flatten→K (.slice (some ⟨H.length,0,none⟩) n.toNat (n.toNat+1)) G):mkR H bytes e zs n n K:=
 ⟨h0,Int.le_refl _,h1,h2,h _ (le_snoc _ _) (by simp) (by simp [Own])⟩
theorem rep_one (n:Nat):(List.replicate n [Value.int .i64 0]).flatten=LI (List.replicate n 0):=by
 induction n with
 | zero=>rfl
 | succ n ih=>rw [List.replicate_succ,List.replicate_succ,List.flatten_cons,ih];rfl
theorem bump_at {b:Nat} {e:TypeId} {cs:List Int} {x:Int} {K:AHeap→Prop} (ho:Own H b e (LI cs)) (h0:0≤x) (h1:x<cs.length) (hb:∀ c∈cs,0≤c∧c≤1000000000000) (k:∀ G,But b H G→Own G b e (LI (bump1 cs x))→K G) :
 idxK (.slice (some ⟨b,0,none⟩) cs.length (cs.length+1)) x 1 (fun b2 o3=>ldI .i64 H b2 o3 (fun v4=>idxK (.slice (some ⟨b,0,none⟩) cs.length (cs.length+1)) x 1 (fun b5 o6=>stK H b5 o6 [(Value.int .i64 (IntKind.i64.wrap (v4+1)))] K))):=by
 refine (own_ints (c:=cs.length+1) ho).rd h0 h1 ⟨h0,h1,stK_1 ho (by simp;omega) rfl fun G hG o=>k G hG ?_⟩
 have hx:x.toNat<cs.length:=by omega
 have:=hb cs[x.toNat] (List.getElem_mem hx)
 rw [getD_of hx,wrap_id (by omega) (by omega),← List.map_set,← getD_of (d:=0) hx] at o
 simpa [bump1] using o
theorem isThree_cl:∀ c:Int,Cl H (.func (.func 124) ⟨[]⟩ ⟨[]⟩) (.int .i64 c) (c==3):=by
 intro c G hG K k
 refine callV_mk ?_
 apply F124.ac
 unfold F124.B2 F124.B1
 exact k _ (AHeap.le_refl _)
theorem isCubic_ok {n:Int} (h:Edges H v es) (hd:IsEd n es) (k:∀ G,H.le G→K (.bool (decide (Cub n es))) G):AC Tryz.prog T0 66 [.int .i64 n,v] H K:=by
 have:=hd.lo;have:=hd.hi;have hlen:=hd.len
 apply F66.ac
 unfold F66.B10 F66.B9
 refine mkR_int (by omega) (by omega) (by decide) fun H1 l1 n1 o1=>?_
 unfold F66.B8
 refine h.len ?_
 unfold F66.L2
 rw [rep_one] at o1
 refine ⟨fun x5 x10 x11 x12 G=>x5=.slice (some ⟨H.length,0,none⟩) n.toNat (n.toNat+1)∧x10=v∧x11=es.length∧0≤x12∧x12≤es.length∧H.le G∧Own G H.length 3 (LI (counts n (es.take x12.toNat))),fun _ _ _ x12 _=>es.length-x12.toNat,⟨rfl,rfl,rfl,by omega,by omega,l1,by simpa [counts] using o1⟩,?_⟩
 rintro x5 x10 x11 x12 G ⟨rfl,rfl,rfl,h0,h1,hG,ho⟩
 unfold F66.B7
 refine pif_cases (fun hb=>?_) fun hb=>?_
 ·have hlt:x12<es.length:=of_decide_eq_true hb
  obtain ⟨i,rfl⟩:∃ i:Nat,x12=i:=⟨x12.toNat,by omega⟩
  have hi:i<es.length:=by omega
  unfold F66.B6
  obtain ⟨b,o,hk,c1,c2⟩:=(h.le hG).idx h0 hlt
  refine hk _ (ldI_mk c1 (ldI_mk c2 (newK_f rfl fun H2 l2 n2 o2=>stK_f o2 (by simp) (by simp [Value.oneCell']) rfl fun H3 b3 o3=>?_)))
  simp only [Int.toNat_natCast,getD_of hi] at o3
  have hGl:=lt_of_get ho
  have ho3:=b3.own (l2.2 _ _ ho) (by omega)
  have l3:H.le H3:=b3.le (AHeap.le_trans hG l2) hG.1
  obtain ⟨e1,e2,e3,e4,_⟩:=hd.ends es[i] (List.getElem_mem hi)
  have cl:(counts n (es.take i)).length=n.toNat:=counts_length _ _
  have cb:∀ c∈counts n (es.take i),0≤c∧c≤1000:=fun c hc=>by have:=counts_le _ _ c hc;simp at this;omega
  unfold F66.B5
  refine ldI_own o3 rfl ?_
  have hs:∀ cs:List Int,cs.length=n.toNat→(.slice (some ⟨H.length,0,none⟩) n.toNat (n.toNat+1):Value)=.slice (some ⟨H.length,0,none⟩) cs.length (cs.length+1):=fun cs h=>by rw [h]
  rw [hs _ cl]
  simp only [Int.toNat_natCast] at ho3
  refine bump_at ho3 e1 (by omega) (fun c hc=>by have:=cb c hc;omega) fun H4 b4 o4=>?_
  rw [← hs _ cl]
  unfold F66.B4
  have o34:=b4.own o3 (by have:=hG.1;omega)
  refine ldI_own o34 rfl ?_
  rw [hs _ ((bump1_length _ _).trans cl)]
  refine bump_at o4 e3 (by rw [bump1_length];omega) (fun c hc=>by have:=bump1_le cb _ c hc;omega) fun H5 b5 o5=>?_
  rw [← hs _ ((bump1_length _ _).trans cl)]
  unfold F66.B3
  rw [wrap_id (by omega) (by omega)]
  refine ⟨⟨rfl,rfl,rfl,by omega,by omega,b5.le (b4.le l3 (Nat.le_refl _)) (Nat.le_refl _),?_⟩,by simp;omega⟩
  rw [show ((i:Int)+1).toNat=i+1 by omega,counts_take n es hi]
  exact o5
 ·have hge:¬ x12<es.length:=of_decide_eq_false hb
  have:x12=es.length:=by omega
  subst this
  simp only [Int.toNat_natCast,List.take_length] at ho
  unfold F66.B1
  have cl:(counts n es).length=n.toNat:=counts_length _ _
  have hi:=own_ints (c:=n.toNat+1) ho
  rw [cl] at hi
  refine areAllI_ok (p:=fun c=>c==3) hi (by omega) rfl (fun c _=>isThree_cl c) fun G2 hG2=>asB_mk ?_
  have:=k _ (AHeap.le_trans hG hG2)
  have e:(counts n es).all (fun c=>c==3)=decide (Cub n es):=by
   rw [Bool.eq_iff_iff,List.all_eq_true,decide_eq_true_iff]
   simp [Cub]
  rw [e];exact this
theorem areEdges_ok {n:Int} (h:Edges H v es) (hl:es.length≤1048576) (k:∀ G,H.le G→K (.bool (decide (IsEd n es))) G):AC Tryz.prog T0 61 [.int .i64 n,v] H K:=by
 apply F61.ac
 unfold F61.B2
 refine newK_f rfl fun H1 l1 n1 o1=>?_
 unfold F61.B1
 refine ldI_own o1 rfl (isSize_ok (asB_mk (pif_cases (fun hs=>?_) fun hs=>?_)))
 ·obtain ⟨s1,s2,s3⟩:=of_decide_eq_true hs
  refine ldI_own o1 rfl (lengthE_ok (h.le l1) (asI_mk ⟨AHeap.le_refl _,?_⟩))
  rw [wrap_id (x:=3*n) (by omega) (by omega),show Int.tdiv (3*n) 2=3*n/2 from Int.tdiv_eq_ediv_of_nonneg (by omega),wrap_id (by omega) (by omega)]
  refine pif_cases (fun hs=>?_) fun hs=>?_
  ·have hlen:(es.length:Int)=3*n/2:=by simpa using hs
   refine areAllE_ok (p:=fun e=>decide (0≤e.1∧e.1≤n-1)&&(decide (0≤e.2∧e.2≤n-1)&&(e.1 != e.2))) (h.le l1) (by omega) rfl (fun e he=>?_) fun G hG=>asB_mk ?_
   ·intro G hG K k
    refine callV_mk ?_
    apply F119.ac
    unfold F119.B2
    refine newK_f rfl fun H2 l2 n2 o2=>?_
    have o1:=l2.2 _ _ (hG.2 _ _ o1)
    unfold F119.B1
    refine ldI_own o2 rfl (asP_mk (ldI_own o1 rfl (within_ok (asB_mk ?_))))
    rw [wrap_id (by omega) (by omega)]
    have k:=k _ l2
    refine pif_cases (fun hb=>?_) fun hb=>?_
    ·rw [hb,Bool.true_and] at k
     refine ldI_own o2 rfl (asP_mk (ldI_own o1 rfl (within_ok (asB_mk ?_))))
     rw [wrap_id (by omega) (by omega)]
     refine pif_cases (fun hb=>?_) fun hb=>?_
     ·rw [hb,Bool.true_and] at k
      exact ldI_own o2 rfl (ldI_own o2 rfl k)
     ·rw [hb,Bool.false_and] at k;exact k
    ·rw [hb,Bool.false_and] at k;exact k
   ·have:=k _ (AHeap.le_trans l1 hG)
    have e:(es.all fun e=>decide (0≤e.1∧e.1≤n-1)&&(decide (0≤e.2∧e.2≤n-1)&&(e.1 != e.2)))=decide (IsEd n es):=by
     rw [Bool.eq_iff_iff,List.all_eq_true,decide_eq_true_iff]
     constructor
     ·intro h
      refine ⟨s1,s2,s3,hlen,fun e he=>?_⟩
      have:=h e he
      simp only [Bool.and_eq_true,decide_eq_true_eq,bne_iff_ne] at this
      exact ⟨this.1.1,this.1.2,this.2.1.1,this.2.1.2,this.2.2⟩
     ·intro h e he
      obtain ⟨h1,h2,h3,h4,h5⟩:=h.ends e he
      simp [h1,h2,h3,h4,h5]
    rw [e];exact this
  ·have:=k _ l1
   rw [decide_eq_false (fun hd=>by have:=hd.len;simp at hs;omega)] at this;exact this
 ·have:=k _ l1
  rw [decide_eq_false (fun hd=>of_decide_eq_false hs ⟨hd.lo,hd.hi,hd.even⟩)] at this;exact this
noncomputable instance (es:List (Int × Int)):Decidable (Srt es):=Classical.propDecidable _
theorem IsGraph_ok {n:Int} (h:Edges H v es) (hl:es.length≤1048576) (k:∀ G,H.le G→K (.bool (decide (IsG n es))) G):AC Tryz.prog T0 13 [.agg ⟨[.int .i64 n,v]⟩] H K:=by
 apply F13.ac
 unfold F13.B2
 refine newK_f (all_iv (edges_one' h)) fun H1 l1 n1 o1=>?_
 unfold F13.B1
 refine ldI_own o1 rfl (ld1_own o1 rfl (areEdges_ok (h.le l1) hl fun H2 l2=>asB_mk (pif_cases (fun hb=>?_) fun hb=>?_)))
 ·have hd:=of_decide_eq_true hb
  have o2:=l2.2 _ _ o1
  refine ld1_own o2 rfl (areAllE_ok (p:=fun e=>decide (e.1<e.2)) (h.le (AHeap.le_trans l1 l2)) (by omega) rfl (fun e he=>?_) fun H3 l3=>asB_mk (pif_cases (fun hb=>?_) fun hb=>?_))
  ·intro G hG K k
   refine callV_mk ?_
   apply F63.ac
   unfold F63.B2
   refine newK_f rfl fun H2 l2 n2 o2=>?_
   unfold F63.B1
   exact ldI_own o2 rfl (ldI_own o2 rfl (k _ l2))
  ·have hup:∀ e∈es,e.1<e.2:=fun e he=>of_decide_eq_true (List.all_eq_true.1 hb e he)
   have o3:=l3.2 _ _ o2
   have l13:=AHeap.le_trans l1 (AHeap.le_trans l2 l3)
   refine ld1_own o3 rfl (isSorted_ok (h.le l13) (by omega) fun H4 l4=>asB_mk (pif_cases (fun hb=>?_) fun hb=>?_))
   ·have o4:=l4.2 _ _ o3
    refine ldI_own o4 rfl (ld1_own o4 rfl (isCubic_ok (h.le (AHeap.le_trans l13 l4)) hd fun H5 l5=>asB_mk ?_))
    have:=k _ (AHeap.le_trans l13 (AHeap.le_trans l4 l5))
    have e:decide (IsG n es)=decide (Cub n es):=by
     rw [decide_eq_decide]
     exact ⟨fun h=>h.cub,fun h=>⟨hd,hup,of_decide_eq_true hb,h⟩⟩
    rw [e] at this;exact this
   ·have:=k _ (AHeap.le_trans l13 l4)
    rw [decide_eq_false (fun hg=>of_decide_eq_false hb hg.srt)] at this;exact this
  ·have:=k _ (AHeap.le_trans l1 (AHeap.le_trans l2 l3))
   rw [decide_eq_false (fun hg=>by
    have:es.all (fun e=>decide (e.1<e.2))=true:=List.all_eq_true.2 fun e he=>decide_eq_true (hg.up e he)
    rw [this] at hb;cases hb)] at this;exact this
 ·have:=k _ (AHeap.le_trans l1 l2)
  rw [decide_eq_false (fun hg=>of_decide_eq_false hb hg.ed)] at this;exact this
theorem graphCode_ok {n:Int} {b:Bool} (h:Edges H v es) (hl:es.length≤1048576) (k:∀ G,H.le G→K (.int .i64 (if IsG n es then (if b then 0 else 2) else 1)) G):AC Tryz.prog T0 55 [.agg ⟨[.int .i64 n,v]⟩,.bool b] H K:=by
 apply F55.ac
 unfold F55.B6
 refine newK_f (all_iv (edges_one' h)) fun H1 l1 n1 o1=>?_
 unfold F55.B5
 refine ldI_own o1 rfl (ld1_own o1 rfl (IsGraph_ok (h.le l1) hl fun H2 l2=>asB_mk ?_))
 have k:=k _ (AHeap.le_trans l1 l2)
 refine pif_cases (fun hb=>?_) fun hb=>?_
 ·unfold F55.B2
  rw [if_neg (of_decide_eq_false (by simpa using hb))] at k;exact k
 ·rw [if_pos (of_decide_eq_true (by simpa using hb))] at k
  unfold F55.B4
  cases b
  ·exact pif_t rfl k
  ·exact pif_f rfl k
end Go.Proofs
namespace Go.Proofs
open Go.Abs

variable {H:AHeap} {v u f:Value} {l m:List Int} {es fs:List (Int × Int)} {K:Value→AHeap→Prop}

theorem l01Before_ok {a b:Int × Int} (k:∀ G,H.le G→K (.bool (decide (ltE a b))) G):AC Tryz.prog T0 131 [.agg ⟨[.int .i64 a.1,.int .i64 a.2]⟩,.agg ⟨[.int .i64 b.1,.int .i64 b.2]⟩] H K:=by
 apply F131.ac
 unfold F131.B2
 refine newK_f rfl fun H1 l1 n1 o1=>newK_f rfl fun H2 l2 n2 o2=>?_
 have o1:=l2.2 _ _ o1
 have k:=k _ (AHeap.le_trans l1 l2)
 unfold F131.B1
 refine ldI_own o1 rfl (ldI_own o2 rfl (pif_cases (fun h=>?_) fun h=>?_))
 ·rw [decide_eq_true (show ltE a b from .inl (of_decide_eq_true h))] at k;exact k
 ·have h:=of_decide_eq_false h
  refine ldI_own o1 rfl (ldI_own o2 rfl (pif_cases (fun g=>?_) fun g=>?_))
  ·refine ldI_own o1 rfl (ldI_own o2 rfl ?_)
   have g:a.1=b.1:=by simpa using g
   have e:decide (a.2<b.2)=decide (ltE a b):=by rw [decide_eq_decide];unfold ltE;omega
   rw [e];exact k
  ·have g:a.1≠b.1:=by simpa using g
   rw [decide_eq_false (by unfold ltE;omega)] at k;exact k
theorem l01Ends_ok {n:Int} (h:Edges H v es) (hl:es.length≤1048576) (k:K (.int .i64 (if IsEd n es then 0 else 2)) H):AC Tryz.prog T0 129 [.int .i64 n,v] H K:=by
 apply F129.ac
 unfold F129.B10 F129.B9
 have no:¬ IsEd n es→F129.B8 K H:=by
  intro hno
  unfold F129.B8;rw [if_neg hno] at k;exact k
 refine l01In_ok (asB_mk (pif_cases (fun hs=>?_) fun hs=>?_))
 ·rw [Bool.not_eq_true'] at hs
  exact no fun hd=>of_decide_eq_false hs ⟨hd.lo,hd.hi⟩
 ·rw [Bool.not_eq_false'] at hs
  obtain ⟨s1,s2⟩:=of_decide_eq_true hs
  refine pif_cases (fun hs=>?_) fun hs=>?_
  ·exact no fun hd=>by have:=hd.even;rw [Int.tmod_eq_emod_of_nonneg (by omega)] at hs;simp [this] at hs
  ·have s3:n%2=0:=by rw [Int.tmod_eq_emod_of_nonneg (by omega)] at hs;simpa using hs
   refine h.len ?_
   rw [wrap_id (x:=3*n) (by omega) (by omega),show Int.tdiv (3*n) 2=3*n/2 from Int.tdiv_eq_ediv_of_nonneg (by omega),wrap_id (by omega) (by omega)]
   refine pif_cases (fun hs=>?_) fun hs=>?_
   ·exact no fun hd=>by have:=hd.len;simp [this] at hs
   ·have hlen:(es.length:Int)=3*n/2:=by simpa using hs
    unfold F129.B7 F129.L2
    refine ⟨fun x0 x1 x5 G=>x0=n∧x1=v∧0≤x5∧x5≤es.length∧G=H∧∀ i:Nat,(i:Int)<x5→0≤(es.getD i (0,0)).1∧(es.getD i (0,0)).1≤n-1∧0≤(es.getD i (0,0)).2∧(es.getD i (0,0)).2≤n-1∧(es.getD i (0,0)).1≠(es.getD i (0,0)).2,
     fun _ _ x5 _=>es.length-x5.toNat,⟨rfl,rfl,by omega,by omega,rfl,fun i hi=>absurd hi (by omega)⟩,?_⟩
    rintro x0 x1 x5 G ⟨rfl,rfl,h0,h1,rfl,hp⟩
    unfold F129.B6
    refine h.len (pif_cases (fun hb=>?_) fun hb=>?_)
    ·have hlt:x5<es.length:=of_decide_eq_true hb
     obtain ⟨i,rfl⟩:∃ i:Nat,x5=i:=⟨x5.toNat,by omega⟩
     have hi:i<es.length:=by omega
     have no:¬ (0≤(es.getD i (0,0)).1∧(es.getD i (0,0)).1≤x0-1∧0≤(es.getD i (0,0)).2∧(es.getD i (0,0)).2≤x0-1∧(es.getD i (0,0)).1≠(es.getD i (0,0)).2)→∀ N,F129.B4 K N G:=by
      intro hno N
      unfold F129.B4
      rw [if_neg (fun hd=>hno (by have:=hd.ends _ (List.getElem_mem hi);rw [getD_of hi];exact this))] at k;exact k
     unfold F129.B5
     obtain ⟨b,o,hk,c1,c2⟩:=h.idx h0 hlt
     simp only [Int.toNat_natCast] at c1 c2
     refine hk _ (ldI_mk c1 (l01In_ok (asB_mk ?_)))
     rw [wrap_id (by omega) (by omega)]
     refine pif_cases (fun hs=>?_) fun hs=>?_
     ·rw [Bool.not_eq_true'] at hs
      exact no (fun hy=>of_decide_eq_false hs ⟨hy.1,hy.2.1⟩) _
     ·rw [Bool.not_eq_false'] at hs
      obtain ⟨t1,t2⟩:=of_decide_eq_true hs
      refine hk _ (ldI_mk c2 (l01In_ok (asB_mk (pif_cases (fun hs=>?_) fun hs=>?_))))
      ·rw [Bool.not_eq_true'] at hs
       exact no (fun hy=>of_decide_eq_false hs ⟨hy.2.2.1,hy.2.2.2.1⟩) _
      ·rw [Bool.not_eq_false'] at hs
       obtain ⟨t3,t4⟩:=of_decide_eq_true hs
       refine hk _ (ldI_mk c1 (hk _ (ldI_mk c2 (pif_cases (fun hs=>?_) fun hs=>?_))))
       ·exact no (fun hy=>hy.2.2.2.2 (by simpa using hs)) _
       ·unfold F129.B3
        rw [wrap_id (x:=(i:Int)+1) (by omega) (by omega)]
        refine ⟨⟨rfl,rfl,by omega,by omega,rfl,fun j hj=>?_⟩,by simp;omega⟩
        by_cases he:j=i
        ·subst he;exact ⟨t1,t2,t3,t4,by simpa using hs⟩
        ·exact hp j (by omega)
    ·have hge:¬ x5<es.length:=of_decide_eq_false hb
     unfold F129.B1
     rw [if_pos (⟨s1,s2,s3,hlen,fun e he=>by
      obtain ⟨i,hi,rfl⟩:=List.getElem_of_mem he
      have:=hp i (by omega)
      rwa [getD_of hi] at this⟩:IsEd x0 es)] at k
     exact k
theorem l01Cubic_ok {n:Int} (h:Edges H v es) (hd:IsEd n es) (k:∀ G,H.le G→K (.bool (decide (Cub n es))) G):AC Tryz.prog T0 130 [.int .i64 n,v] H K:=by
 have:=hd.lo;have:=hd.hi;have hlen:=hd.len
 apply F130.ac
 unfold F130.B15 F130.B14
 refine mkR_int (by omega) (by omega) (by decide) fun H1 l1 n1 o1=>?_
 unfold F130.B13 F130.L8
 rw [rep_one] at o1
 refine ⟨fun x0 x1 x5 x6 G=>x0=n∧x1=v∧x5=.slice (some ⟨H.length,0,none⟩) n.toNat (n.toNat+1)∧0≤x6∧x6≤es.length∧H.le G∧Own G H.length 2 (LI (counts n (es.take x6.toNat))),fun _ _ _ x6 _=>es.length-x6.toNat,⟨rfl,rfl,rfl,by omega,by omega,l1,by simpa [counts] using o1⟩,?_⟩
 rintro x0 x1 x5 x6 G ⟨rfl,rfl,rfl,h0,h1,hG,ho⟩
 unfold F130.B12
 refine h.len (pif_cases (fun hb=>?_) fun hb=>?_)
 ·have hlt:x6<es.length:=of_decide_eq_true hb
  obtain ⟨i,rfl⟩:∃ i:Nat,x6=i:=⟨x6.toNat,by omega⟩
  have hi:i<es.length:=by omega
  unfold F130.B11
  obtain ⟨b,o,hk,c1,c2⟩:=(h.le hG).idx h0 hlt
  obtain ⟨e1,e2,e3,e4,_⟩:=hd.ends es[i] (List.getElem_mem hi)
  simp only [Int.toNat_natCast,getD_of hi] at c1 c2 ho
  have cl:(counts x0 (es.take i)).length=x0.toNat:=counts_length _ _
  have cb:∀ c∈counts x0 (es.take i),0≤c∧c≤1000:=fun c hc=>by have:=counts_le _ _ c hc;simp at this;omega
  have hs:∀ cs:List Int,cs.length=x0.toNat→(.slice (some ⟨H.length,0,none⟩) x0.toNat (x0.toNat+1):Value)=.slice (some ⟨H.length,0,none⟩) cs.length (cs.length+1):=fun cs h=>by rw [h]
  refine hk _ (ldI_mk c1 ?_)
  rw [hs _ cl]
  refine bump_at ho e1 (by omega) (fun c hc=>by have:=cb c hc;omega) fun H4 b4 o4=>?_
  rw [← hs _ cl]
  unfold F130.B10
  have l4:=b4.le hG (Nat.le_refl _)
  obtain ⟨b',o',hk',c1',c2'⟩:=(h.le l4).idx h0 hlt
  simp only [Int.toNat_natCast,getD_of hi] at c1' c2'
  refine hk' _ (ldI_mk c2' ?_)
  rw [hs _ ((bump1_length _ _).trans cl)]
  refine bump_at o4 e3 (by rw [bump1_length];omega) (fun c hc=>by have:=bump1_le cb _ c hc;omega) fun H5 b5 o5=>?_
  rw [← hs _ ((bump1_length _ _).trans cl)]
  unfold F130.B9
  rw [wrap_id (by omega) (by omega)]
  refine ⟨⟨rfl,rfl,rfl,by omega,by omega,b5.le l4 (Nat.le_refl _),?_⟩,by simp;omega⟩
  rw [show ((i:Int)+1).toNat=i+1 by omega,counts_take x0 es hi]
  exact o5
 ·have hge:¬ x6<es.length:=of_decide_eq_false hb
  have:x6=es.length:=by omega
  subst this
  simp only [Int.toNat_natCast,List.take_length] at ho
  have cl:(counts x0 es).length=x0.toNat:=counts_length _ _
  have hi:=own_ints (c:=x0.toNat+1) ho
  rw [cl] at hi
  unfold F130.B7 F130.L2
  refine ⟨fun y0 y5 y7 G'=>y0=x0∧y5=.slice (some ⟨H.length,0,none⟩) x0.toNat (x0.toNat+1)∧0≤y7∧y7≤x0∧G'=G∧∀ i:Nat,(i:Int)<y7→(counts x0 es).getD i 0=3,fun _ _ y7 _=>(x0-y7).toNat,⟨rfl,rfl,by omega,by omega,rfl,fun i hi=>absurd hi (by omega)⟩,?_⟩
  rintro y0 y5 y7 G' ⟨rfl,rfl,g0,g1,rfl,hp⟩
  unfold F130.B6
  have k:=k _ hG
  refine pif_cases (fun hb=>?_) fun hb=>?_
  ·have hlt:y7<y0:=of_decide_eq_true hb
   obtain ⟨i,rfl⟩:∃ i:Nat,y7=i:=⟨y7.toNat,by omega⟩
   unfold F130.B5
   refine hi.rd g0 (by omega) ?_
   simp only [Int.toNat_natCast]
   refine pif_cases (fun hs=>?_) fun hs=>?_
   ·unfold F130.B4
    have hil:i<(counts y0 es).length:=by omega
    rw [getD_of hil] at hs
    rw [decide_eq_false (fun hc:Cub y0 es=>by have:=hc _ (List.getElem_mem hil);simp [this] at hs)] at k;exact k
   ·unfold F130.B3
    rw [wrap_id (by omega) (by omega)]
    refine ⟨⟨rfl,rfl,by omega,by omega,rfl,fun j hj=>?_⟩,show (y0-((i:Int)+1)).toNat<(y0-(i:Int)).toNat by omega⟩
    by_cases he:j=i
    ·subst he;exact bne_eq_false_iff_eq.1 hs
    ·exact hp j (by omega)
  ·have hge:¬ y7<y0:=of_decide_eq_false hb
   unfold F130.B1
   rw [decide_eq_true (show Cub y0 es from fun c hc=>by
    obtain ⟨i,hi,rfl⟩:=List.getElem_of_mem hc
    have:=hp i (by omega)
    rwa [getD_of hi] at this)] at k
   exact k
theorem l01Is_ok {n:Int} (h:Edges H v es) (hl:es.length≤1048576) (k:∀ G,H.le G→K (.bool (decide (IsG n es))) G):AC Tryz.prog T0 68 [.agg ⟨[.int .i64 n,v]⟩] H K:=by
 apply F68.ac
 unfold F68.B10
 refine newK_f (all_iv (edges_one' h)) fun H1 l1 n1 o1=>?_
 unfold F68.B9
 refine ldI_own o1 rfl (ld1_own o1 rfl (l01Ends_ok (h.le l1) hl (asI_mk ?_)))
 refine pif_cases (fun hb=>?_) fun hb=>?_
 ·unfold F68.B8
  have k:=k _ l1
  rw [decide_eq_false (fun hg=>by rw [if_pos hg.ed] at hb;simp at hb)] at k;exact k
 ·have hd:IsEd n es:=by
   by_cases hd:IsEd n es
   ·exact hd
   ·rw [if_neg hd] at hb;simp at hb
  refine ldI_own o1 rfl (ld1_own o1 rfl (l01Cubic_ok (h.le l1) hd fun H2 l2=>asB_mk ?_))
  have l12:=AHeap.le_trans l1 l2
  have o2:=l2.2 _ _ o1
  refine pif_cases (fun hb=>?_) fun hb=>?_
  ·unfold F68.B8
   rw [Bool.not_eq_true'] at hb
   have k:=k _ l12
   rw [decide_eq_false (fun hg=>of_decide_eq_false hb hg.cub)] at k;exact k
  ·rw [Bool.not_eq_false'] at hb
   have hc:Cub n es:=of_decide_eq_true hb
   unfold F68.B7 F68.L2
   refine ⟨fun x1 x3 G=>x1=H.length∧0≤x3∧x3≤es.length∧H.le G∧Own G H.length 31 [.int .i64 n,v]∧∀ i:Nat,(i:Int)<x3→¬ (es.getD i (0,0)).1>(es.getD i (0,0)).2∧(0<i→¬ ltE (es.getD i (0,0)) (es.getD (i-1) (0,0))),
    fun _ x3 _=>es.length-x3.toNat,⟨rfl,by omega,by omega,l12,o2,fun i hi=>absurd hi (by omega)⟩,?_⟩
   rintro x1 x3 G ⟨rfl,h0,h1,hG,ho,hp⟩
   unfold F68.B6
   refine ld1_own ho rfl ((h.le hG).len (pif_cases (fun hb=>?_) fun hb=>?_))
   ·have hlt:x3<es.length:=of_decide_eq_true hb
    obtain ⟨i,rfl⟩:∃ i:Nat,x3=i:=⟨x3.toNat,by omega⟩
    have hi:i<es.length:=by omega
    have no:∀ G,H.le G→¬ (¬ (es.getD i (0,0)).1>(es.getD i (0,0)).2∧(0<i→¬ ltE (es.getD i (0,0)) (es.getD (i-1) (0,0))))→∀ N,F68.B4 K N G:=by
     intro G hG hno N
     unfold F68.B4
     have k:=k _ hG
     rw [decide_eq_false (fun hg:IsG n es=>hno ⟨by have:=hg.up _ (List.getElem_mem hi);rw [getD_of hi];omega,fun hi0=>by
      have:=hg.srt (i-1) (by omega)
      rwa [show i-1+1=i by omega] at this⟩)] at k;exact k
    have yes:(¬ (es.getD i (0,0)).1>(es.getD i (0,0)).2∧(0<i→¬ ltE (es.getD i (0,0)) (es.getD (i-1) (0,0))))→∀ j:Nat,(j:Int)<(i:Int)+1→¬ (es.getD j (0,0)).1>(es.getD j (0,0)).2∧(0<j→¬ ltE (es.getD j (0,0)) (es.getD (j-1) (0,0))):=by
     intro hy j hj
     by_cases he:j=i
     ·subst he;exact hy
     ·exact hp j (by omega)
    unfold F68.B5
    obtain ⟨b,o,hk,c1,c2⟩:=(h.le hG).idx h0 hlt
    simp only [Int.toNat_natCast] at c1 c2
    refine ld1_own ho rfl (hk _ (ldI_mk c1 (ld1_own ho rfl (hk _ (ldI_mk c2 (pif_cases (fun hs=>?_) fun hs=>?_))))))
    ·exact no _ hG (fun hy=>hy.1 (of_decide_eq_true hs)) _
    ·have hs:=of_decide_eq_false hs
     refine pif_cases (fun ht=>?_) fun ht=>?_
     ·have hi0:0<i:=by have:=of_decide_eq_true ht;omega
      rw [wrap_id (by omega) (by omega)]
      obtain ⟨b',o',hk',c1',c2'⟩:=(h.le hG).idx (show (0:Int)≤(i:Int)-1 by omega) (by omega)
      rw [show ((i:Int)-1).toNat=i-1 by omega] at c1' c2'
      refine ld1_own ho rfl (hk _ (ldI_mk c1 (ldI_mk c2 (ld1_own ho rfl (hk' _ (ldI_mk c1' (ldI_mk c2' (l01Before_ok fun G2 hG2=>asB_mk (pif_cases (fun hb=>?_) fun hb=>?_)))))))))
      ·exact no _ (AHeap.le_trans hG hG2) (fun hy=>hy.2 hi0 (of_decide_eq_true hb)) _
      ·unfold F68.B3
       rw [wrap_id (by omega) (by omega)]
       exact ⟨⟨rfl,by omega,by omega,AHeap.le_trans hG hG2,hG2.2 _ _ ho,yes ⟨hs,fun _=>of_decide_eq_false hb⟩⟩,by simp;omega⟩
     ·have:=of_decide_eq_false ht
      unfold F68.B3
      rw [wrap_id (by omega) (by omega)]
      exact ⟨⟨rfl,by omega,by omega,hG,ho,yes ⟨hs,fun h=>by omega⟩⟩,by simp;omega⟩
   ·have hge:¬ x3<es.length:=of_decide_eq_false hb
    unfold F68.B1
    have k:=k _ hG
    rw [decide_eq_true (⟨hd,fun e he=>by
     obtain ⟨i,hi,rfl⟩:=List.getElem_of_mem he
     have h1:=(hp i (by omega)).1
     have h2:=(hd.ends _ (List.getElem_mem hi)).2.2.2.2
     rw [getD_of hi] at h1;omega,fun i hi=>by have:=(hp (i+1) (by omega)).2 (by omega);simpa using this,hc⟩:IsG n es)] at k
    exact k
end Go.Proofs
namespace Go.Proofs
open Go.Abs

variable {H:AHeap} {v u:Value} {l m:List Int} {es fs:List (Int × Int)} {K:Value→AHeap→Prop}

theorem LE_set (l:List (Int × Int)) {n:Nat} (x:Int × Int) (h:n<l.length):(LE l).take (n*2)++[.int .i64 x.1,.int .i64 x.2]++(LE l).drop (n*2+2)=LE (l.set n x):=by
 induction l generalizing n with
 | nil=>simp at h
 | cons y l ih=>
  cases n with
  | zero=>simp [LE_cons]
  | succ n=>
   rw [List.set_cons_succ,LE_cons,LE_cons,← ih (by simpa using h),show (n+1)*2=n*2+2 by omega]
   simp
theorem ints_one {H:AHeap} {v:Value} {l:List Int} (h:Ints H v l):v.oneCell'=true:=by
 rcases h with ⟨rfl,_⟩|⟨a,c,rfl,_⟩ <;> rfl
end Go.Proofs
namespace Go.Proofs
open Go.Abs

variable {H:AHeap} {v u:Value} {l m:List Int} {es fs:List (Int × Int)} {K:Value→AHeap→Prop}

theorem _root_.Go.Abs.But.trans {b:Nat} {G G':AHeap} (h:But b H G) (k:But b G G'):But b H G':=⟨k.len.trans h.len,fun c hc=>(k.same c hc).trans (h.same c hc)⟩
end Go.Proofs
namespace Go.Proofs
open Go.Abs

def setN (l:List Int):Nat:=l.foldl (fun s i=>s|||2^i.toNat) 0
def bitsTo (s i:Nat):List Int:=((List.range i).filter (fun j=>s.testBit j)).map Int.ofNat
def bitsL (s:Nat):List Int:=bitsTo s 64
theorem u64_nat {x:Nat} (h:x<2^64):IntKind.u64.wrap ((x:Nat):Int)=x:=by
 rw [IntKind.wrap_u64];omega
theorem bv_nat (s:Nat):BitVec.ofInt 64 (s:Int)=BitVec.ofNat 64 s:=by
 simp
theorem or_lt {s t:Nat} (h:s<2^64) (g:t<2^64):s|||t<2^64:=Nat.or_lt_two_pow h g
theorem bits_or {s t:Nat} (h:s<2^64) (g:t<2^64):IntKind.u64.wrap ((BitVec.ofInt 64 (s:Int)|||BitVec.ofInt 64 (t:Int)).toNat:Int)=((s|||t:Nat):Int):=by
 rw [bv_nat,bv_nat,BitVec.toNat_or,BitVec.toNat_ofNat,BitVec.toNat_ofNat,Nat.mod_eq_of_lt h,Nat.mod_eq_of_lt g,u64_nat (or_lt h g)]
theorem bits_xor {s t:Nat} (h:s<2^64) (g:t<2^64):IntKind.u64.wrap ((BitVec.ofInt 64 (s:Int) ^^^ BitVec.ofInt 64 (t:Int)).toNat:Int)=((s ^^^ t:Nat):Int):=by
 rw [bv_nat,bv_nat,BitVec.toNat_xor,BitVec.toNat_ofNat,BitVec.toNat_ofNat,Nat.mod_eq_of_lt h,Nat.mod_eq_of_lt g,u64_nat (Nat.xor_lt_two_pow h g)]
theorem bits_and {s t:Nat} (h:s<2^64) (g:t<2^64):IntKind.u64.wrap ((BitVec.ofInt 64 (s:Int)&&&BitVec.ofInt 64 (t:Int)).toNat:Int)=((s&&&t:Nat):Int):=by
 have:s&&&t<2^64:=Nat.lt_of_le_of_lt Nat.and_le_left h
 rw [bv_nat,bv_nat,BitVec.toNat_and,BitVec.toNat_ofNat,BitVec.toNat_ofNat,Nat.mod_eq_of_lt h,Nat.mod_eq_of_lt g,u64_nat this]
theorem one_shl {i:Int} (h0:0≤i) (h:i<64):IntKind.u64.wrap (1*2^(min i.toNat 64))=((2^i.toNat:Nat):Int):=by
 rw [Int.one_mul,show min i.toNat 64=i.toNat by omega]
 have:(2:Nat)^i.toNat<2^64:=Nat.pow_lt_pow_right (by decide) (by omega)
 rw [← u64_nat this];simp
theorem shr_nat (s:Nat) (i:Nat):Int.fdiv (s:Int) (2^i)=((s/2^i:Nat):Int):=by
 rw [Int.fdiv_eq_ediv_of_nonneg _ (by exact Int.le_of_lt (Int.pow_pos (by decide)))]
 simp
theorem testBit_big {s:Nat} (h:s<2^64) {i:Nat} (hi:64≤i):s.testBit i=false:=
 Nat.testBit_lt_two_pow (Nat.lt_of_lt_of_le h (Nat.pow_le_pow_right (by decide) hi))
theorem has_bit {s:Nat} (h:s<2^64) {i:Int} (h0:0≤i):((IntKind.u64.wrap ((BitVec.ofInt 64 (Int.fdiv (s:Int) (2^(min i.toNat 64)))&&&BitVec.ofInt 64 1).toNat:Int):Int)==1)=s.testBit i.toNat:=by
 have hd:s/2^(min i.toNat 64)<2^64:=Nat.lt_of_le_of_lt (Nat.div_le_self _ _) h
 rw [shr_nat,show (1:Int)=((1:Nat):Int) from rfl,bits_and hd (by decide),Nat.and_one_is_mod]
 by_cases hi:i.toNat<64
 ·rw [show min i.toNat 64=i.toNat by omega,Nat.testBit_eq_decide_div_mod_eq]
  have:s/2^i.toNat%2=0∨s/2^i.toNat%2=1:=by omega
  rcases this with e|e <;> simp [e]
 ·rw [testBit_big h (by omega),show min i.toNat 64=64 by omega,Nat.div_eq_of_lt h];rfl
theorem setN_foldl_lt:∀ (l:List Int) (s:Nat),(∀ x∈l,x<64)→s<2^64→l.foldl (fun s i=>s|||2^i.toNat) s<2^64
 | [],s,_,h=>h
 | x::l,s,hx,h=>setN_foldl_lt l _ (fun y hy=>hx y (by simp [hy])) (or_lt h (Nat.pow_lt_pow_right (by decide) (by have:=hx x (by simp);omega)))
theorem setN_lt {l:List Int} (h:∀ x∈l,x<64):setN l<2^64:=setN_foldl_lt l 0 h (by decide)
theorem setN_take {l:List Int} {i:Nat} (h:i<l.length):setN (l.take (i+1))=setN (l.take i)|||2^(l[i]).toNat:=by
 unfold setN;rw [List.take_succ_eq_append_getElem h,List.foldl_append];rfl
theorem setN_foldl_bit:∀ (l:List Int) (s i:Nat),(∀ x∈l,0≤x)→((l.foldl (fun s i=>s|||2^i.toNat) s).testBit i=true↔s.testBit i=true∨(i:Int)∈l)
 | [],s,i,_=>by simp
 | x::l,s,i,h=>by
  rw [List.foldl_cons,setN_foldl_bit l _ i fun y hy=>h y (by simp [hy]),Nat.testBit_or,Nat.testBit_two_pow]
  have:=h x (by simp)
  simp only [Bool.or_eq_true,decide_eq_true_eq,List.mem_cons]
  constructor
  ·rintro ((h|h)|h)
   ·exact .inl h
   ·exact .inr (.inl (by omega))
   ·exact .inr (.inr h)
  ·rintro (h|h|h)
   ·exact .inl (.inl h)
   ·exact .inl (.inr (by omega))
   ·exact .inr h
theorem setN_bit {l:List Int} (h:∀ x∈l,0≤x) (i:Nat):(setN l).testBit i=decide ((i:Int)∈l):=by
 rw [Bool.eq_iff_iff,setN,setN_foldl_bit l 0 i h];simp
theorem bitsTo_succ (s i:Nat):bitsTo s (i+1)=bitsTo s i++(if s.testBit i then [(i:Int)] else []):=by
 unfold bitsTo
 rw [List.range_succ,List.filter_append,List.map_append]
 congr 1
 by_cases h:s.testBit i <;> simp [h]
theorem bitsTo_end {s i:Nat} (h:s/2^i=0):∀ k,bitsTo s (i+k)=bitsTo s i
 | 0=>rfl
 | k+1=>by
  rw [← Nat.add_assoc,bitsTo_succ,bitsTo_end h k]
  have hs:s<2^i:=by
   have:=Nat.div_add_mod s (2^i);rw [h] at this
   have:=Nat.mod_lt s (Nat.two_pow_pos i);omega
  have:s.testBit (i+k)=false:=Nat.testBit_lt_two_pow (Nat.lt_of_lt_of_le hs (Nat.pow_le_pow_right (by decide) (by omega)))
  simp [this]
theorem bitsTo_length (s i:Nat):(bitsTo s i).length≤i:=by
 unfold bitsTo;rw [List.length_map]
 exact Nat.le_trans (List.length_filter_le _ _) (by simp)
theorem IsS.range {l:List Int} {n:Int} (h:IsS l n):∀ x∈l,0≤x∧x<n:=by
 intro x hx
 obtain ⟨i,hi,rfl⟩:=List.getElem_of_mem hx
 have:=h i hi
 rw [getD_of hi] at this;omega
end Go.Proofs
namespace Go.Proofs
open Go.Abs

variable {H:AHeap} {v u f:Value} {l m:List Int} {es fs:List (Int × Int)} {K:Value→AHeap→Prop}

noncomputable def tiInt:TI:=(T0 2).getD ⟨.bool,0,0,undef⟩
theorem T0_int:T0 2=some tiInt∧tiInt.size=1∧tiInt.bytes=8∧tiInt.fine=true:=⟨by kernel_rfl,by kernel_rfl,by kernel_rfl,by kernel_rfl⟩
theorem push_int {H0:AHeap} {x:Int} (hF:Fresh H0.length H v 2 1 (LI l)) (h0:H0.le H) (hs:l.length<4294967296)
 (k:∀ v' G,H0.le G→Fresh H0.length G v' 2 1 (LI (l++[x]))→(∀ b o,H[b]?=some (some o)→(∀ c n,v≠.slice (some ⟨b,c,none⟩) n (n+1))→G[b]?=some (some o))→K v' G) :
 newK H [Value.int .i64 x] 2 (fun b1 H2=>apK T0 2 H2 v (Value.slice (some ⟨b1,0,none⟩) 1 (1+1)) K):=by
 refine newK_f rfl fun H2 l2 n2 o2=>?_
 obtain ⟨t1,t2,t3,t4⟩:=T0_int
 have hF2:=hF.le l2
 rw [← t2] at hF2
 refine Fresh.push (n:=1) (ys:=[.int .i64 x]) t1 (by omega) (by omega) t4 hF2 (AHeap.le_trans h0 l2) ?_ (by decide) (by simp;omega) ?_
 ·rw [t2];exact cellsAt_row o2 (by simp)
 ·intro v' G hG hf hk
  rw [t2] at hf
  exact k v' G hG (by simpa using hf) fun b o hb hne=>hk b o (l2.2 _ _ hb) hne
theorem setOf_ok (h:Ints H v l) (hl:l.length≤4611686018427387904) (hr:∀ x∈l,0≤x∧x<64) (k:K (.int .u64 (setN l:Nat)) H):AC Tryz.prog T0 103 [v] H K:=by
 apply F103.ac
 unfold F103.B9 F103.B8 F103.B7
 refine h.len ?_
 unfold F103.L2
 refine ⟨fun x3 x6 x7 x8 G=>x3=(setN (l.take x8.toNat):Nat)∧x6=v∧x7=l.length∧0≤x8∧x8≤l.length∧G=H,fun _ _ _ x8 _=>l.length-x8.toNat,⟨rfl,rfl,rfl,by omega,by omega,rfl⟩,?_⟩
 rintro x3 x6 x7 x8 G ⟨rfl,rfl,rfl,h0,h1,rfl⟩
 unfold F103.B6
 refine pif_cases (fun hb=>?_) fun hb=>?_
 ·have hlt:x8<l.length:=of_decide_eq_true hb
  obtain ⟨i,rfl⟩:∃ i:Nat,x8=i:=⟨x8.toNat,by omega⟩
  have hi:i<l.length:=by omega
  unfold F103.B5
  refine h.rd h0 hlt ?_
  simp only [Int.toNat_natCast,getD_of hi]
  have hx:=hr l[i] (List.getElem_mem hi)
  unfold F103.B4
  refine ⟨hx.1,?_⟩
  unfold F103.B3
  have hp:2^(l[i]).toNat<2^64:=Nat.pow_lt_pow_right (by decide) (by omega)
  rw [wrap_id (x:=(i:Int)+1) (by omega) (by omega),one_shl hx.1 hx.2,bits_or (setN_lt fun x hx=>(hr x (List.mem_of_mem_take hx)).2) hp]
  refine ⟨⟨?_,rfl,rfl,by omega,by omega,rfl⟩,by simp;omega⟩
  rw [show ((i:Int)+1).toNat=i+1 by omega,setN_take hi]
 ·have hge:¬ x8<l.length:=of_decide_eq_false hb
  have:x8=l.length:=by omega
  subst this
  unfold F103.B1
  simpa using k
theorem has_ok {s:Nat} {i:Int} (hs:s<2^64) (h0:0≤i) (k:K (.bool (s.testBit i.toNat)) H):AC Tryz.prog T0 144 [.int .u64 (s:Nat),.int .i64 i] H K:=by
 apply F144.ac
 unfold F144.B2 F144.B1
 refine ⟨h0,?_⟩
 rw [has_bit hs h0];exact k
theorem list_ok {s:Nat} (hs:s<2^64) (k:∀ v' G,H.le G→Fresh H.length G v' 2 1 (LI (bitsL s))→K v' G):AC Tryz.prog T0 80 [.int .u64 (s:Nat)] H K:=by
 apply F80.ac
 unfold F80.B9 F80.B8 F80.B7 F80.L2
 refine ⟨fun x0 x3 x4 G=>x0=(s:Nat)∧0≤x4∧x4≤64∧H.le G∧Fresh H.length G x3 2 1 (LI (bitsTo s x4.toNat)),fun _ _ x4 _=>64-x4.toNat,⟨rfl,by omega,by omega,AHeap.le_refl _,.inl ⟨rfl,.inl rfl⟩⟩,?_⟩
 rintro x0 x3 x4 G ⟨rfl,h0,h1,hG,hF⟩
 obtain ⟨i,rfl⟩:∃ i:Nat,x4=i:=⟨x4.toNat,by omega⟩
 simp only [Int.toNat_natCast] at hF
 unfold F80.B6
 refine ⟨h0,?_⟩
 rw [shr_nat,show min (Int.toNat (i:Int)) 64=i by simp;omega]
 refine pif_cases (fun hb=>?_) fun hb=>?_
 ·have hi:i<64:=by
   rcases Nat.lt_or_ge i 64 with h|h
   ·exact h
   ·have:i=64:=by omega
    subst this
    rw [Nat.div_eq_of_lt hs] at hb;simp at hb
  unfold F80.B5
  refine has_ok hs h0 (asB_mk (pif_cases (fun hb=>?_) fun hb=>?_))
  ·unfold F80.B4
   refine push_int hF hG (by have:=bitsTo_length s i;omega) fun v' G2 hG2 hF2 _=>?_
   unfold F80.B3
   rw [wrap_id (by omega) (by omega)]
   refine ⟨⟨rfl,by omega,by omega,hG2,?_⟩,by simp;omega⟩
   rw [show ((i:Int)+1).toNat=i+1 by omega,bitsTo_succ,if_pos (by simpa using hb)];exact hF2
  ·unfold F80.B3
   rw [wrap_id (by omega) (by omega)]
   refine ⟨⟨rfl,by omega,by omega,hG,?_⟩,by simp;omega⟩
   rw [show ((i:Int)+1).toNat=i+1 by omega,bitsTo_succ,if_neg (by simpa using hb),List.append_nil];exact hF
 ·have hz:s/2^i=0:=Int.natCast_eq_zero.1 (bne_eq_false_iff_eq.1 hb)
  unfold F80.B1
  refine k _ _ hG ?_
  have e:=bitsTo_end hz (64-i)
  rw [show i+(64-i)=64 by omega] at e
  unfold bitsL
  rw [e];exact hF
end Go.Proofs
namespace Go.Proofs
open Go.Abs

def on (e:Int × Int) (v:Int):Bool:=e.1==v||e.2==v
def atTo (es:List (Int × Int)) (v:Int) (k:Nat):List Int:=((List.range k).filter (fun i=>on (es.getD i (0,0)) v)).map Int.ofNat
def atL (es:List (Int × Int)) (v:Int):List Int:=atTo es v es.length
theorem atTo_succ (es:List (Int × Int)) (v:Int) (k:Nat):atTo es v (k+1)=atTo es v k++(if on (es.getD k (0,0)) v then [(k:Int)] else []):=by
 unfold atTo
 rw [List.range_succ,List.filter_append,List.map_append]
 congr 1
 cases h:on (es.getD k (0,0)) v <;> simp only [List.filter_cons,h,List.filter_nil] <;> rfl
theorem atTo_length (es:List (Int × Int)) (v:Int) (k:Nat):(atTo es v k).length≤k:=by
 unfold atTo;rw [List.length_map]
 exact Nat.le_trans (List.length_filter_le _ _) (by simp)
theorem mem_atL {es:List (Int × Int)} {v:Int} {x:Int}:x∈atL es v↔∃ i:Nat,x=i∧i<es.length∧on (es.getD i (0,0)) v=true:=by
 unfold atL atTo
 rw [List.mem_map]
 constructor
 ·rintro ⟨i,hi,rfl⟩
  rw [List.mem_filter,List.mem_range] at hi
  exact ⟨i,rfl,hi⟩
 ·rintro ⟨i,rfl,h1,h2⟩
  exact ⟨i,by rw [List.mem_filter,List.mem_range];exact ⟨h1,h2⟩,rfl⟩
theorem bump1_get (cs:List Int) (v:Int) {i:Nat} (hi:i<cs.length) (hv:0≤v):(bump1 cs v).getD i 0=cs.getD i 0+if v=i then 1 else 0:=by
 unfold bump1
 simp only [List.getD,List.getElem?_set]
 by_cases h:v=i
 ·subst h;simp [hi]
 ·have:v.toNat≠i:=by omega
  simp [this,h]
theorem counts_at {n:Int} {es:List (Int × Int)} (hd:IsEd n es) {v:Nat} (hv:(v:Int)<n):∀ k,k≤es.length→(counts n (es.take k)).getD v 0=((atTo es v k).length:Int):=by
 intro k
 induction k with
 | zero=>
  intro _
  have:v<n.toNat:=by omega
  simp [counts,atTo,this]
 | succ k ih=>
  intro hk
  have hk':k<es.length:=by omega
  obtain ⟨e1,e2,e3,e4,e5⟩:=hd.ends es[k] (List.getElem_mem hk')
  have hl:v<(counts n (es.take k)).length:=by rw [counts_length];omega
  rw [counts_take n es hk',bump,bump1_get _ _ (by rw [bump1_length];exact hl) e3,bump1_get _ _ hl e1,ih (by omega),atTo_succ,List.length_append,getD_of hk']
  unfold on
  by_cases h1:es[k].1=v
  ·have h2:es[k].2≠v:=by omega
   simp [h1,h2]
  ·by_cases h2:es[k].2=v <;> simp [h1,h2]
theorem IsG.three {n:Int} {es:List (Int × Int)} (hg:IsG n es) {v:Int} (h0:0≤v) (h1:v<n):(atL es v).length=3:=by
 obtain ⟨k,rfl⟩:∃ k:Nat,v=k:=⟨v.toNat,by omega⟩
 have:=counts_at hg.ed h1 es.length (Nat.le_refl _)
 rw [List.take_length] at this
 have hl:k<(counts n es).length:=by rw [counts_length];omega
 rw [getD_of hl,hg.cub _ (List.getElem_mem hl)] at this
 unfold atL;omega
def share (a b:Int × Int):Prop:=∃ v,on a v=true∧on b v=true
def ColTo (es:List (Int × Int)) (c:List Int) (k:Nat):Prop:=∀ j,j<k→∀ i,i<j→share (es.getD i (0,0)) (es.getD j (0,0))→c.getD i 0≠c.getD j 0
structure IsC (es:List (Int × Int)) (c:List Int):Prop where
 len:c.length=es.length
 rng:∀ x∈c,0≤x∧x≤2
 col:ColTo es c es.length
noncomputable instance (es:List (Int × Int)) (c:List Int):Decidable (IsC es c):=Classical.propDecidable _
def ends (es:List (Int × Int)) (l:List Int):List Int:=l.flatMap fun i=>[(es.getD i.toNat (0,0)).1,(es.getD i.toNat (0,0)).2]
structure IsM (n:Int) (es:List (Int × Int)) (l:List Int):Prop where
 set:IsS l es.length
 nd:(ends es l).Nodup
 len:2*(l.length:Int)=n
noncomputable instance (n:Int) (es:List (Int × Int)) (l:List Int):Decidable (IsM n es l):=Classical.propDecidable _
theorem ends_length (es:List (Int × Int)):∀ (l:List Int),(ends es l).length=2*l.length
 | []=>rfl
 | x::l=>by have:=ends_length es l;simp [ends] at this ⊢;omega
theorem nodup_sub {l m:List Int} (h:l.Nodup) (hs:∀ x∈l,x∈m):l.length≤m.length:=by
 induction l generalizing m with
 | nil=>simp
 | cons a l ih=>
  rw [List.nodup_cons] at h
  have ha:=hs a (by simp)
  have:=ih (m:=m.erase a) h.2 fun x hx=>by
   rw [List.mem_erase_of_ne (by rintro rfl;exact h.1 hx)];exact hs x (by simp [hx])
  rw [List.length_erase_of_mem ha] at this
  have:=List.length_pos_of_mem ha
  simp;omega
def upto (n:Nat):List Int:=(List.range n).map Int.ofNat
end Go.Proofs
namespace Go.Proofs
open Go.Abs

variable {H:AHeap} {v u f:Value} {l m c:List Int} {es fs:List (Int × Int)} {K:Value→AHeap→Prop}

theorem l01At_ok {n x:Int} (h:Edges H v es) (hl:es.length≤1048576) (k:∀ v' G,H.le G→Fresh H.length G v' 2 1 (LI (atL es x))→K v' G):AC Tryz.prog T0 132 [.agg ⟨[.int .i64 n,v]⟩,.int .i64 x] H K:=by
 apply F132.ac
 unfold F132.B9
 refine newK_f (all_iv (edges_one' h)) fun H1 l1 n1 o1=>?_
 unfold F132.B8
 refine newK_f rfl fun H2 l2 n2 o2=>?_
 unfold F132.B7 F132.L2
 refine ⟨fun x1 x2 x5 x6 G=>x1=x∧x2=H.length∧0≤x6∧x6≤es.length∧H1.le G∧Fresh H1.length G x5 2 1 (LI (atTo es x x6.toNat)),fun _ _ _ x6 _=>es.length-x6.toNat,⟨rfl,rfl,by omega,by omega,l2,.inr ⟨_,0,Nat.le_refl _,rfl,o2,rfl⟩⟩,?_⟩
 rintro x1 x2 x5 x6 G ⟨rfl,rfl,h0,h1,hG,hF⟩
 have oG:=hG.2 _ _ o1
 have lG:=AHeap.le_trans l1 hG
 unfold F132.B6
 refine ld1_own oG rfl ((h.le lG).len (pif_cases (fun hb=>?_) fun hb=>?_))
 ·have hlt:x6<es.length:=of_decide_eq_true hb
  obtain ⟨i,rfl⟩:∃ i:Nat,x6=i:=⟨x6.toNat,by omega⟩
  simp only [Int.toNat_natCast] at hF
  have yes:on (es.getD i (0,0)) x1=true→∀ N:Int→Nat→Value→Int→AHeap→Prop,(∀ x5' G',H1.le G'→Fresh H1.length G' x5' 2 1 (LI (atTo es x1 (i+1)))→N x1 H.length x5' ((i:Int)+1) G')→F132.B4 K N x1 H.length x5 i G:=by
   intro ho N hN
   unfold F132.B4
   refine push_int hF hG (by have:=atTo_length es x1 i;omega) fun v' G2 hG2 hF2 _=>?_
   unfold F132.B3
   rw [wrap_id (by omega) (by omega)]
   exact hN _ _ hG2 (by rw [atTo_succ,if_pos ho];exact hF2)
  have fin:∀ x5' G',H1.le G'→Fresh H1.length G' x5' 2 1 (LI (atTo es x1 (i+1)))→(x1=x1∧H.length=H.length∧0≤(i:Int)+1∧(i:Int)+1≤es.length∧H1.le G'∧Fresh H1.length G' x5' 2 1 (LI (atTo es x1 ((i:Int)+1).toNat)))∧es.length-((i:Int)+1).toNat<es.length-(i:Int).toNat:=
   fun x5' G' a b=>⟨⟨rfl,rfl,by omega,by omega,a,by rw [show ((i:Int)+1).toNat=i+1 by omega];exact b⟩,by omega⟩
  unfold F132.B5
  obtain ⟨b,o,hk,c1,c2⟩:=(h.le lG).idx h0 hlt
  simp only [Int.toNat_natCast] at c1 c2
  refine ld1_own oG rfl (hk _ (ldI_mk c1 (pif_cases (fun hs=>?_) fun hs=>?_)))
  ·exact yes (by unfold on;rw [hs];rfl) _ fin
  ·refine ld1_own oG rfl (hk _ (ldI_mk c2 (pif_cases (fun ht=>?_) fun ht=>?_)))
   ·exact yes (by unfold on;rw [hs,ht];rfl) _ fin
   ·unfold F132.B3
    rw [wrap_id (by omega) (by omega)]
    exact fin _ _ hG (by rw [atTo_succ,if_neg (by unfold on;rw [hs,ht];decide),List.append_nil];exact hF)
 ·have hge:¬ x6<es.length:=of_decide_eq_false hb
  have:x6=es.length:=by omega
  subst this
  unfold F132.B1
  exact k _ _ lG (hF.less l1.1)
def en (e:Int × Int) (k:Nat):Int:=if k=0 then e.1 else e.2
def Fits (es:List (Int × Int)) (c:List Int) (e:Nat) (x:Int):Prop:=∀ i,i<e→share (es.getD i (0,0)) (es.getD e (0,0))→c.getD i 0≠x
noncomputable instance (es:List (Int × Int)) (c:List Int) (e:Nat) (x:Int):Decidable (Fits es c e x):=Classical.propDecidable _
theorem on_en {e:Int × Int} {k:Nat}:on e (en e k)=true:=by
 unfold on en;split <;> simp
theorem on_cases {e:Int × Int} {v:Int} (h:on e v=true):v=en e 0∨v=en e 1:=by
 unfold on at h;unfold en
 simp only [Bool.or_eq_true,beq_iff_eq] at h
 rcases h with h|h
 ·left;simp [h]
 ·right;simp [h]
theorem cell_en {H:AHeap} {b o k:Nat} {e:Int × Int} (h1:H.cell b o=some (.int .i64 e.1)) (h2:H.cell b (o+1)=some (.int .i64 e.2)) (hk:k<2):H.cell b (o+Int.toNat (k:Int)*1)=some (.int .i64 (en e k)):=by
 rcases (by omega:k=0∨k=1) with rfl|rfl
 ·simpa [en] using h1
 ·simpa [en] using h2
theorem l02Fits2_ok {n x:Int} {e:Nat} (h:Edges H v es) (hl:es.length≤1048576) (hg:IsG n es) (hc:Ints H u c) (hcl:e≤c.length) (he:e<es.length) (k:∀ G,H.le G→K (.bool (decide (Fits es c e x))) G) :
 AC Tryz.prog T0 133 [.agg ⟨[.int .i64 n,v]⟩,u,.int .i64 e,.int .i64 x] H K:=by
 apply F133.ac
 unfold F133.B13
 refine newK_f (all_iv (edges_one' h)) fun H1 l1 n1 o1=>?_
 unfold F133.B12 F133.L2
 refine ⟨fun x1 x2 x3 x4 x9 G=>x1=u∧x2=e∧x3=x∧x4=H.length∧H1.le G∧∃ j:Nat,x9=j∧j≤2∧∀ j',j'<j→∀ i,i<e→on (es.getD i (0,0)) (en (es.getD e (0,0)) j')=true→c.getD i 0≠x,fun _ _ _ _ x9 _=>2-x9.toNat,⟨rfl,rfl,rfl,rfl,AHeap.le_refl _,0,rfl,by omega,fun j' hj=>absurd hj (by omega)⟩,?_⟩
 rintro x1 x2 x3 x4 x9 G ⟨rfl,rfl,rfl,rfl,hG,j,rfl,hj,hp⟩
 have oG:=hG.2 _ _ o1
 have lG:=AHeap.le_trans l1 hG
 obtain ⟨d1,d2,d3,d4,_⟩:=hg.ed.ends es[e] (List.getElem_mem he)
 unfold F133.B11
 refine pif_cases (fun hb=>?_) fun hb=>?_
 ·have hj2:j<2:=by have:=of_decide_eq_true hb;omega
  unfold F133.B10
  obtain ⟨b,o,hk,c1,c2⟩:=(h.le lG).idx (show (0:Int)≤(e:Int) by omega) (by omega)
  simp only [Int.toNat_natCast] at c1 c2
  refine ldI_own oG rfl (ld1_own oG rfl (ld1_own oG rfl (hk _ (bndK_iff.2 ⟨by omega,by omega,ldI_mk (cell_en c1 c2 hj2) (l01At_ok (h.le lG) hl fun w G2 hG2 hF=>?_)⟩))))
  have hv:0≤en (es.getD e (0,0)) j∧en (es.getD e (0,0)) j<n:=by
   rw [getD_of he];unfold en;split <;> omega
  have h3:=hg.three hv.1 hv.2
  have lG2:=AHeap.le_trans lG hG2
  unfold F133.B9 F133.L4
  refine ⟨fun y1 y2 y3 y4 y9 y10 y11 G'=>y1=x1∧y2=e∧y3=x3∧y4=H.length∧y9=j∧y10=w∧G'=G2∧0≤y11∧y11≤3∧∀ t:Nat,(t:Int)<y11→(atL es (en (es.getD e (0,0)) j)).getD t 0<e→c.getD ((atL es (en (es.getD e (0,0)) j)).getD t 0).toNat 0≠x3,fun _ _ _ _ _ _ y11 _=>3-y11.toNat,⟨rfl,rfl,rfl,rfl,rfl,rfl,rfl,by omega,by omega,fun t ht=>absurd ht (by omega)⟩,?_⟩
  rintro y1 y2 y3 y4 y9 y10 y11 G' ⟨rfl,rfl,rfl,rfl,rfl,rfl,rfl,g0,g1,hq⟩
  unfold F133.B8
  refine pif_cases (fun hb=>?_) fun hb=>?_
  ·have ht3:y11<3:=of_decide_eq_true hb
   obtain ⟨t,rfl⟩:∃ t:Nat,y11=t:=⟨y11.toNat,by omega⟩
   have htl:t<(atL es (en (es.getD e (0,0)) j)).length:=by omega
   unfold F133.B7
   have fin:((atL es (en (es.getD e (0,0)) j)).getD t 0<e→c.getD ((atL es (en (es.getD e (0,0)) j)).getD t 0).toNat 0≠y3)→∀ t':Nat,(t':Int)<(t:Int)+1→(atL es (en (es.getD e (0,0)) j)).getD t' 0<e→c.getD ((atL es (en (es.getD e (0,0)) j)).getD t' 0).toNat 0≠y3:=by
    intro hy t' ht'
    by_cases he:t'=t
    ·subst he;exact hy
    ·exact hq t' (by omega)
   obtain ⟨i,hi1,hi2,hi3⟩:=mem_atL.1 (List.getElem_mem htl)
   rw [← getD_of (d:=0) htl] at hi1
   have rd:∀ K:Int→Prop,K ((atL es (en (es.getD e (0,0)) j)).getD t 0)→idxK y10 t 1 (fun b o=>ldI .i64 G' b o K):=fun K k=>by
    have:=hF.ints.rd (i:=(t:Int)) g0 (by omega) (K:=K)
    simp only [Int.toNat_natCast] at this
    exact this k
   refine rd _ (pif_cases (fun hs=>?_) fun hs=>?_)
   ·have hs:=of_decide_eq_true hs
    refine rd _ ((hc.le lG2).rd (by omega) (by omega) (pif_cases (fun hu=>?_) fun hu=>?_))
    ·unfold F133.B6
     have k:=k _ lG2
     rw [decide_eq_false (fun hf:Fits es c e y3=>by
      rw [hi1] at hu hs
      exact hf i (by omega) ⟨_,hi3,on_en⟩ (by simpa using hu))] at k
     exact k
    ·unfold F133.B5
     rw [wrap_id (by omega) (by omega)]
     exact ⟨⟨rfl,rfl,rfl,rfl,rfl,rfl,rfl,by omega,by omega,fin fun _=>by simpa using hu⟩,by simp;omega⟩
   ·have hs:=of_decide_eq_false hs
    unfold F133.B5
    rw [wrap_id (by omega) (by omega)]
    exact ⟨⟨rfl,rfl,rfl,rfl,rfl,rfl,rfl,by omega,by omega,fin fun h=>absurd h hs⟩,by simp;omega⟩
  ·have hge:¬ y11<3:=of_decide_eq_false hb
   unfold F133.B3
   rw [wrap_id (by omega) (by omega)]
   refine ⟨⟨rfl,rfl,rfl,rfl,AHeap.le_trans hG hG2,j+1,by omega,by omega,fun j' hj' i hi ho=>?_⟩,by simp;omega⟩
   by_cases he':j'=j
   ·subst he'
    have hm:(i:Int)∈atL es (en (es.getD e (0,0)) j'):=mem_atL.2 ⟨i,rfl,by omega,ho⟩
    obtain ⟨t,ht,hte⟩:=List.getElem_of_mem hm
    have:=hq t (by omega)
    rw [getD_of ht,hte] at this
    simpa using this (by omega)
   ·exact hp j' (by omega) i hi ho
 ·have hj2:j=2:=by have:=of_decide_eq_false hb;omega
  subst hj2
  unfold F133.B1
  have k:=k _ lG
  rw [decide_eq_true (show Fits es c e x3 from fun i hi ⟨w,hw1,hw2⟩=>by
   rcases on_cases hw2 with rfl|rfl
   ·exact hp 0 (by omega) i hi hw1
   ·exact hp 1 (by omega) i hi hw1)] at k
  exact k
theorem l02Fits_ok {n x:Int} {e:Nat} (h:Edges H v es) (hl:es.length≤1048576) (hg:IsG n es) (hc:Ints H u c) (hcl:c.length=es.length) (he:e<es.length) (k:∀ G,H.le G→K (.bool (decide (Fits es c e x))) G) :
 AC Tryz.prog T0 133 [.agg ⟨[.int .i64 n,v]⟩,u,.int .i64 e,.int .i64 x] H K:=l02Fits2_ok h hl hg hc (by omega) he k
end Go.Proofs
namespace Go.Proofs
open Go.Abs

variable {H:AHeap} {v u f:Value} {l m c:List Int} {es fs:List (Int × Int)} {K:Value→AHeap→Prop}

abbrev LU (s:List Nat):List Value:=s.map fun x=>Value.int .u64 (x:Nat)
abbrev LB (s:List Bool):List Value:=s.map Value.bool
theorem rep_u (n:Nat):(List.replicate n [Value.int .u64 0]).flatten=LU (List.replicate n 0):=by
 induction n with
 | zero=>rfl
 | succ n ih=>rw [List.replicate_succ,List.replicate_succ,List.flatten_cons,ih];rfl
theorem rep_b (n:Nat):(List.replicate n [Value.bool false]).flatten=LB (List.replicate n false):=by
 induction n with
 | zero=>rfl
 | succ n ih=>rw [List.replicate_succ,List.replicate_succ,List.flatten_cons,ih];rfl
theorem own_idx {b n:Nat} {x:Int} {K:Nat→Nat→Prop} (h0:0≤x) (h1:x<n) (k:K b x.toNat):idxK (.slice (some ⟨b,0,none⟩) n (n+1)) x 1 K:=⟨h0,h1,by simpa using k⟩
end Go.Proofs
namespace Go.Proofs
open Go.Abs

inductive Rch (adj:Nat→Nat→Prop) (e:Nat):Nat→Prop
 | refl:Rch adj e e
 | step {x y:Nat}:Rch adj e x→adj x y→Rch adj e y
theorem Rch.trans {adj:Nat→Nat→Prop} {a b c:Nat} (h:Rch adj a b) (k:Rch adj b c):Rch adj a c:=by
 induction k with
 | refl=>exact h
 | step _ h2 ih=>exact .step ih h2
theorem Rch.symm {adj:Nat→Nat→Prop} (hs:∀ x y,adj x y→adj y x) {a b:Nat} (h:Rch adj a b):Rch adj b a:=by
 induction h with
 | refl=>exact .refl
 | step _ h2 ih=>exact (Rch.step .refl (hs _ _ h2)).trans ih
theorem Rch.keep {adj:Nat→Nat→Prop} {P:Nat→Prop} (hs:∀ x y,adj x y→P x→P y) {a b:Nat} (h:Rch adj a b) (ha:P a):P b:=by
 induction h with
 | refl=>exact ha
 | step _ h2 ih=>exact hs _ _ h2 ih
noncomputable instance (adj:Nat→Nat→Prop) (a b:Nat):Decidable (Rch adj a b):=Classical.propDecidable _
def insB (S:Nat→Bool) (y:Nat):Nat→Bool:=fun j=>S j||decide (y=j)
theorem insB_self (S:Nat→Bool) (y:Nat):insB S y y=true:=by simp [insB]
theorem insB_of {S:Nat→Bool} {y x:Nat} (h:S x=true):insB S y x=true:=by simp [insB,h]
theorem insB_ne {S:Nat→Bool} {y x:Nat} (h:insB S y x=true) (hne:x≠y):S x=true:=by
 simp only [insB,Bool.or_eq_true,decide_eq_true_eq] at h
 exact h.elim id fun h=>absurd h.symm hne
def unseen (S:Nat→Bool):Nat→Nat
 | 0=>0
 | n+1=>unseen S n+if S n then 0 else 1
theorem unseen_congr {S S':Nat→Bool}:∀ {n:Nat},(∀ i,i<n→S i=S' i)→unseen S n=unseen S' n
 | 0,_=>rfl
 | n+1,h=>by rw [unseen,unseen,unseen_congr fun i hi=>h i (by omega),h n (by omega)]
theorem unseen_ins {S:Nat→Bool} {y:Nat}:∀ {n:Nat},y<n→S y=false→unseen (insB S y) n+1=unseen S n
 | n+1,h,hs=>by
  rw [unseen,unseen]
  by_cases e:y=n
  ·subst e
   rw [unseen_congr (S':=S) fun i hi=>by simp [insB];intro h;omega,insB_self,hs];simp
  ·have:insB S y n=S n:=by simp [insB,e]
   rw [this,← unseen_ins (n:=n) (by omega) hs];omega
theorem unseen_le (S:Nat→Bool):∀ n,unseen S n≤n
 | 0=>Nat.le_refl _
 | n+1=>by have:=unseen_le S n;rw [unseen];split <;> omega
structure Ex (adj:Nat→Nat→Prop) (e:Nat) (S:Nat→Bool) (Q:List Nat):Prop where
 start:S e=true
 q:∀ x∈Q,S x=true
 rch:∀ x,S x=true→Rch adj e x
 done:∀ x,S x=true→x∉Q→∀ y,adj x y→S y=true
theorem Ex.init {adj:Nat→Nat→Prop} {e:Nat} {S:Nat→Bool} (h:∀ x,S x=true↔x=e):Ex adj e S [e]:=
 ⟨(h e).2 rfl,fun x hx=>by rw [List.mem_singleton] at hx;exact (h x).2 hx,fun x hx=>by rw [(h x).1 hx];exact .refl,fun x hx hn=>absurd ((h x).1 hx) (by simpa using hn)⟩
theorem Ex.push {adj:Nat→Nat→Prop} {e:Nat} {S:Nat→Bool} {Q:List Nat} (h:Ex adj e S Q) {x y:Nat} (hx:S x=true) (ha:adj x y):Ex adj e (insB S y) (Q++[y]):=by
 refine ⟨insB_of h.start,fun z hz=>?_,fun z hz=>?_,fun z hz hn w hw=>?_⟩
 ·rcases List.mem_append.1 hz with hz|hz
  ·exact insB_of (h.q z hz)
  ·rw [List.mem_singleton] at hz;rw [hz];exact insB_self _ _
 ·by_cases e':z=y
  ·rw [e'];exact .step (h.rch x hx) ha
  ·exact h.rch z (insB_ne hz e')
 ·rw [List.mem_append,List.mem_singleton] at hn
  exact insB_of (h.done z (insB_ne hz fun h=>hn (.inr h)) (fun h=>hn (.inl h)) w hw)
theorem Ex.pop {adj:Nat→Nat→Prop} {e:Nat} {S:Nat→Bool} {x:Nat} {Q:List Nat} (h:Ex adj e S (x::Q)) (ha:∀ y,adj x y→S y=true):Ex adj e S Q:=by
 refine ⟨h.start,fun z hz=>h.q z (by simp [hz]),h.rch,fun z hz hn w hw=>?_⟩
 by_cases e':z=x
 ·rw [e'] at hw;exact ha w hw
 ·exact h.done z hz (by simp [e',hn]) w hw
theorem Ex.fin {adj:Nat→Nat→Prop} {e:Nat} {S:Nat→Bool} (h:Ex adj e S []) (x:Nat):S x=true↔Rch adj e x:=by
 refine ⟨h.rch x,fun hr=>hr.keep (P:=fun x=>S x=true) (fun a b hab ha=>?_) h.start⟩
 exact h.done a ha (by simp) b hab
end Go.Proofs
namespace Go.Proofs
open Go.Abs

theorem and_split {a b c d:Nat} (ha:a<256) (hc:c<256):(a+256*b)&&&(c+256*d)=(a&&&c)+256*(b&&&d):=by
 have hac:a&&&c<2^8:=Nat.lt_of_le_of_lt Nat.and_le_left ha
 apply Nat.eq_of_testBit_eq
 intro i
 have e:∀ x y:Nat,x<2^8→(x+256*y).testBit i=if i<8 then x.testBit i else y.testBit (i-8):=fun x y hx=>by
  rw [Nat.add_comm,show (256:Nat)=2^8 from rfl,Nat.testBit_two_pow_mul_add _ hx]
 rw [Nat.testBit_and,e a b ha,e c d hc,e _ _ hac,Nat.testBit_and,Nat.testBit_and]
 split <;> rfl
def msk (c:Nat):Nat→Nat
 | 0=>0
 | n+1=>c+256*msk c n
theorem split256 (x:Nat):x=x%256+256*(x/256):=by omega
theorem and_msk {c x n:Nat} (hc:c<256):x&&&msk c (n+1)=(x%256&&&c)+256*(x/256&&&msk c n):=by
 conv=>lhs;rw [split256 x]
 exact and_split (Nat.mod_lt _ (by decide)) hc
theorem sh1:∀ a:Fin 256,∀ b:Fin 2,(a.val/2+128*b.val)&&&85=(a.val/2)&&&85:=by decide +kernel
theorem sh2:∀ a:Fin 256,∀ b:Fin 4,(a.val/4+64*b.val)&&&51=(a.val/4)&&&51:=by decide +kernel
theorem sh4:∀ a:Fin 69,∀ b:Fin 5,a.val%16≤4→(a.val/16+16*b.val+a.val)%256&&&15=(a.val/16+a.val)%256&&&15:=by decide +kernel
def stA (n x:Nat):Nat:=(x/2&&&msk 85 n)+(x&&&msk 85 n)
def stB (n x:Nat):Nat:=(x/4&&&msk 51 n)+(x&&&msk 51 n)
def stC (n x:Nat):Nat:=(x/16+x)&&&msk 15 n
def byA (c:Nat):Nat:=(c/2&&&85)+(c&&&85)
def byB (c:Nat):Nat:=(c/4&&&51)+(c&&&51)
def byC (c:Nat):Nat:=(c/16+c)%256&&&15
theorem byA_lt:∀ c:Fin 256,byA c.val<256:=by decide +kernel
theorem byB_lt:∀ c:Fin 256,byB (byA c.val)<69∧byB (byA c.val)%16≤4∧byB (byA c.val)/16≤4:=by decide +kernel
theorem stA_step (n x:Nat):stA (n+1) x=byA (x%256)+256*stA n (x/256):=by
 unfold stA byA
 rw [and_msk (by decide),and_msk (by decide)]
 have h1:x/2%256=x%256/2+128*(x/256%2):=by omega
 have h2:x/2/256=x/256/2:=by omega
 have h3:=sh1 ⟨x%256,by omega⟩ ⟨x/256%2,by omega⟩
 simp only at h3
 rw [h1,h2,h3];omega
theorem stB_step (n x:Nat):stB (n+1) x=byB (x%256)+256*stB n (x/256):=by
 unfold stB byB
 rw [and_msk (by decide),and_msk (by decide)]
 have h1:x/4%256=x%256/4+64*(x/256%4):=by omega
 have h2:x/4/256=x/256/4:=by omega
 have h3:=sh2 ⟨x%256,by omega⟩ ⟨x/256%4,by omega⟩
 simp only at h3
 rw [h1,h2,h3];omega
def byts (n x:Nat):Nat:=stB n (stA n x)
theorem byts_step (n x:Nat):byts (n+1) x=byB (byA (x%256))+256*byts n (x/256):=by
 unfold byts
 have hb:=byA_lt ⟨x%256,by omega⟩
 simp only at hb
 have e:=stA_step n x
 have h1:stA (n+1) x%256=byA (x%256):=by omega
 have h2:stA (n+1) x/256=stA n (x/256):=by omega
 rw [stB_step,h1,h2]
theorem byts_zero (x:Nat):byts 0 x=0:=by simp [byts,stB,stA,msk]
theorem byts_low (n x:Nat):byts n x%16≤4∧byts n x%256<69∧byts n x%256/16≤4:=by
 cases n with
 | zero=>rw [byts_zero];decide
 | succ n=>
  have h:=byB_lt ⟨x%256,by omega⟩
  simp only at h
  have:=byts_step n x
  omega
def pops (n x:Nat):Nat:=stC n (byts n x)
def pop1 (c:Nat):Nat:=byC (byB (byA c))
theorem pops_step (n x:Nat):pops (n+1) x=pop1 (x%256)+256*pops n (x/256):=by
 unfold pops stC pop1 byC
 have hb:=byB_lt ⟨x%256,by omega⟩
 simp only at hb
 have e:=byts_step n x
 have hl:=byts_low n (x/256)
 rw [and_msk (by decide),e]
 generalize byB (byA (x%256))=c at *
 generalize byts n (x/256)=d at *
 have h1:((c+256*d)/16+(c+256*d))%256=(c/16+16*(d%16)+c)%256:=by omega
 have h2:((c+256*d)/16+(c+256*d))/256=d/16+d:=by omega
 have h3:=sh4 ⟨c,by omega⟩ ⟨d%16,by omega⟩ (by simp only;omega)
 simp only at h3
 rw [h1,h2,h3]
theorem pop1_eq:∀ c:Fin 256,pop1 c.val=(bitsTo c.val 8).length:=by decide +kernel
theorem pop1_le:∀ c:Fin 256,pop1 c.val≤8:=by decide +kernel
def popc (s k:Nat):Nat:=(bitsTo s k).length
theorem popc_byte (s:Nat):∀ k,popc s (8+k)=popc (s%256) 8+popc (s/256) k
 | 0=>by
  unfold popc bitsTo
  rw [List.length_map,List.length_map,List.length_map,Nat.add_zero]
  rw [List.filter_congr (q:=fun j=>(s%256).testBit j) fun j hj=>by
   rw [List.mem_range] at hj
   rw [show (256:Nat)=2^8 from rfl,Nat.testBit_mod_two_pow];simp [hj]]
  simp
 | k+1=>by
  have ih:=popc_byte s k
  unfold popc at ih ⊢
  rw [← Nat.add_assoc,bitsTo_succ s (8+k),bitsTo_succ (s/256) k,List.length_append,List.length_append,ih]
  have:s.testBit (8+k)=(s/256).testBit k:=by
   rw [show (256:Nat)=2^8 from rfl,Nat.testBit_div_two_pow,Nat.add_comm]
  rw [this,Nat.add_assoc]
  split <;> rfl
theorem pop_fin {c d e0 e1 e2 e3 e4 e5 e6 e7:Nat} (q0:e0≤8) (q1:e1≤8) (q2:e2≤8) (q3:e3≤8) (q4:e4≤8) (q5:e5≤8) (q6:e6≤8) (q7:e7≤8)
 (hc:c=(e0+e1+e2+e3)+256*(e1+e2+e3+e4)+65536*(e2+e3+e4+e5)+16777216*(e3+e4+e5+e6)+4294967296*(e4+e5+e6+e7)+1099511627776*(e5+e6+e7)+281474976710656*(e6+e7)+72057594037927936*e7)
 (hd:d=c+c/4294967296):d%128=e0+(e1+(e2+(e3+(e4+(e5+(e6+e7)))))):=by
 obtain ⟨lo,hlo⟩:∃ lo,lo=(e0+e1+e2+e3)+256*(e1+e2+e3+e4)+65536*(e2+e3+e4+e5)+16777216*(e3+e4+e5+e6):=⟨_,rfl⟩
 obtain ⟨hi,hhi⟩:∃ hi,hi=(e4+e5+e6+e7)+256*(e5+e6+e7)+65536*(e6+e7)+16777216*e7:=⟨_,rfl⟩
 have h1:lo<4294967296:=by omega
 have h2:c=lo+4294967296*hi:=by omega
 clear hc
 have h3:c/4294967296=hi:=by omega
 have h4:d=lo+4294967296*hi+hi:=by omega
 clear hd h2 h3 h1
 have h5:d=(e0+(e1+(e2+(e3+(e4+(e5+(e6+e7)))))))+128*(2*(e1+e2+e3+e4)+512*(e2+e3+e4+e5)+131072*(e3+e4+e5+e6)+33554432*hi+2*(e5+e6+e7)+512*(e6+e7)+131072*e7):=by omega
 rw [h5,Nat.add_mul_mod_self_left]
 clear h4 h5 hlo hhi
 exact Nat.mod_eq_of_lt (by omega)
theorem pops_sum {x a b c d:Nat} (ha:a=pops 8 x) (hb:b=a+a/256) (hc:c=b+b/65536) (hd:d=c+c/4294967296):d%128=popc x 64:=by
 have st:∀ n y,∃ z,z=y/256∧pops (n+1) y=pop1 (y%256)+256*pops n z∧pop1 (y%256)≤8∧popc y (8+8*n)=pop1 (y%256)+popc z (8*n):=by
  intro n y
  refine ⟨_,rfl,pops_step n y,?_,?_⟩
  ·exact pop1_le ⟨y%256,by omega⟩
  ·rw [popc_byte,pop1_eq ⟨y%256,by omega⟩];rfl
 obtain ⟨x1,_,p0,q0,r0⟩:=st 7 x
 obtain ⟨x2,_,p1,q1,r1⟩:=st 6 x1
 obtain ⟨x3,_,p2,q2,r2⟩:=st 5 x2
 obtain ⟨x4,_,p3,q3,r3⟩:=st 4 x3
 obtain ⟨x5,_,p4,q4,r4⟩:=st 3 x4
 obtain ⟨x6,_,p5,q5,r5⟩:=st 2 x5
 obtain ⟨x7,_,p6,q6,r6⟩:=st 1 x6
 obtain ⟨x8,_,p7,q7,r7⟩:=st 0 x7
 have p8:pops 0 x8=0:=by simp [pops,stC,msk]
 have r8:popc x8 (8*0)=0:=rfl
 simp only [Nat.reduceMul,Nat.reduceAdd] at p0 p1 p2 p3 p4 p5 p6 p7 p8 r0 r1 r2 r3 r4 r5 r6 r7 r8
 generalize pop1 (x%256)=e0 at *
 generalize pop1 (x1%256)=e1 at *
 generalize pop1 (x2%256)=e2 at *
 generalize pop1 (x3%256)=e3 at *
 generalize pop1 (x4%256)=e4 at *
 generalize pop1 (x5%256)=e5 at *
 generalize pop1 (x6%256)=e6 at *
 generalize pop1 (x7%256)=e7 at *
 rw [r0,r1,r2,r3,r4,r5,r6,r7,r8]
 rw [p0,p1,p2,p3,p4,p5,p6,p7,p8] at ha
 have hb:b=(e0+e1)+256*(e1+e2)+65536*(e2+e3)+16777216*(e3+e4)+4294967296*(e4+e5)+1099511627776*(e5+e6)+281474976710656*(e6+e7)+72057594037927936*e7:=by omega
 clear ha
 have hc:c=(e0+e1+e2+e3)+256*(e1+e2+e3+e4)+65536*(e2+e3+e4+e5)+16777216*(e3+e4+e5+e6)+4294967296*(e4+e5+e6+e7)+1099511627776*(e5+e6+e7)+281474976710656*(e6+e7)+72057594037927936*e7:=by omega
 clear hb
 have:=pop_fin q0 q1 q2 q3 q4 q5 q6 q7 hc hd
 rw [this];simp only [Nat.add_assoc,Nat.add_zero]
theorem pops_le {x:Nat}:pops 8 x≤651061555542690056:=by
 have st:∀ n y,pops (n+1) y≤8+256*pops n (y/256):=fun n y=>by
  have:=pops_step n y;have:=pop1_le ⟨y%256,by omega⟩;simp only at this;omega
 have p8:∀ y,pops 0 y=0:=fun y=>by simp [pops,stC,msk]
 have h0:=st 7 x
 have h1:=st 6 (x/256)
 have h2:=st 5 (x/256/256)
 have h3:=st 4 (x/256/256/256)
 have h4:=st 3 (x/256/256/256/256)
 have h5:=st 2 (x/256/256/256/256/256)
 have h6:=st 1 (x/256/256/256/256/256/256)
 have h7:=st 0 (x/256/256/256/256/256/256/256)
 have h8:=p8 (x/256/256/256/256/256/256/256/256)
 simp only [Nat.reduceAdd] at h0 h1 h2 h3 h4 h5 h6 h7
 omega
theorem msk_a:msk 85 8=6148914691236517205:=rfl
theorem msk_b:msk 51 8=3689348814741910323:=rfl
theorem msk_c:msk 15 8=1085102592571150095:=rfl
end Go.Proofs
namespace Go.Proofs
open Go.Abs

def filtB (S:Nat→Bool) (k:Nat):List Int:=((List.range k).filter S).map Int.ofNat
theorem filtB_succ (S:Nat→Bool) (k:Nat):filtB S (k+1)=filtB S k++(if S k then [(k:Int)] else []):=by
 unfold filtB
 rw [List.range_succ,List.filter_append,List.map_append]
 congr 1
 cases h:S k <;> simp [h]
theorem filtB_length (S:Nat→Bool) (k:Nat):(filtB S k).length≤k:=by
 unfold filtB;rw [List.length_map]
 exact Nat.le_trans (List.length_filter_le _ _) (by simp)
theorem filtB_congr {S S':Nat→Bool} {k:Nat} (h:∀ i,i<k→S i=S' i):filtB S k=filtB S' k:=by
 unfold filtB
 rw [List.filter_congr fun i hi=>h i (List.mem_range.1 hi)]
theorem bits_lt {s n:Nat} (h:∀ j,s.testBit j=true→j<n):s<2^n:=by
 apply Nat.lt_pow_two_of_testBit
 intro i hi
 cases hb:s.testBit i with
 | false=>rfl
 | true=>have:=h i hb;omega
theorem bitsL_filt {s n:Nat} (hn:n≤64) (h:∀ j,s.testBit j=true→j<n):bitsL s=filtB (fun j=>s.testBit j) n:=by
 have e:=bitsTo_end (Nat.div_eq_of_lt (bits_lt h)) (64-n)
 rw [show n+(64-n)=64 by omega] at e
 exact e
theorem mem_filtB {S:Nat→Bool} {k:Nat} {x:Int}:x∈filtB S k↔∃ j:Nat,x=j∧j<k∧S j=true:=by
 unfold filtB
 rw [List.mem_map]
 constructor
 ·rintro ⟨j,hj,rfl⟩
  rw [List.mem_filter,List.mem_range] at hj
  exact ⟨j,rfl,hj⟩
 ·rintro ⟨j,rfl,h⟩
  exact ⟨j,by rw [List.mem_filter,List.mem_range];exact h,rfl⟩
def Asc (l:List Int):Prop:=l.Pairwise (· < ·)
theorem Asc.ext:∀ {l m:List Int},Asc l→Asc m→(∀ x,x∈l↔x∈m)→l=m
 | [],[],_,_,_=>rfl
 | [],b::m,_,_,h=>absurd ((h b).2 (by simp)) (by simp)
 | a::l,[],_,_,h=>absurd ((h a).1 (by simp)) (by simp)
 | a::l,b::m,hl,hm,h=>by
  unfold Asc at hl hm
  rw [List.pairwise_cons] at hl hm
  have hab:a=b:=by
   have h1:=(h a).1 (by simp)
   have h2:=(h b).2 (by simp)
   rcases List.mem_cons.1 h1 with rfl|h1
   ·rfl
   ·rcases List.mem_cons.1 h2 with h2|h2
    ·exact h2.symm
    ·have:=hl.1 b h2;have:=hm.1 a h1;omega
  subst hab
  rw [Asc.ext hl.2 hm.2 fun x=>?_]
  constructor
  ·intro hx
   rcases List.mem_cons.1 ((h x).1 (by simp [hx])) with rfl|hx'
   ·exact absurd (hl.1 x hx) (Int.lt_irrefl _)
   ·exact hx'
  ·intro hx
   rcases List.mem_cons.1 ((h x).2 (by simp [hx])) with rfl|hx'
   ·exact absurd (hm.1 x hx) (Int.lt_irrefl _)
   ·exact hx'
theorem filtB_asc (S:Nat→Bool) (k:Nat):Asc (filtB S k):=by
 unfold filtB Asc
 refine List.Pairwise.map _ (fun a b (h:a<b)=>Int.ofNat_lt.2 h) ?_
 exact List.Pairwise.filter _ List.pairwise_lt_range
theorem IsS.asc {l:List Int} {n:Int} (h:IsS l n):Asc l:=by
 have key:∀ i j,i<j→j<l.length→l.getD i 0<l.getD j 0:=by
  intro i j hij hj
  induction j with
  | zero=>omega
  | succ j ih=>
   have:=(h (j+1) hj).2.2 (by omega)
   rw [Nat.add_sub_cancel] at this
   by_cases e:i=j
   ·subst e;exact this
   ·have:=ih (by omega) (by omega);omega
 unfold Asc
 rw [List.pairwise_iff_getElem]
 intro i j hi hj hij
 have:=key i j hij hj
 rwa [getD_of hi,getD_of hj] at this
theorem asc_isS {l:List Int} {n:Int} (h:Asc l) (hr:∀ x∈l,0≤x∧x<n):IsS l n:=by
 intro i hi
 have:=hr _ (List.getElem_mem hi)
 rw [getD_of hi]
 refine ⟨this.1,by omega,fun h0=>?_⟩
 unfold Asc at h
 rw [List.pairwise_iff_getElem] at h
 rw [getD_of (show i-1<l.length by omega)]
 exact h _ _ _ _ (by omega)
def bitB (l:List Int) (j:Nat):Bool:=(setN l).testBit j
theorem bitB_mem {l:List Int} {n:Int} (h:IsS l n) (j:Nat):bitB l j=true↔(j:Int)∈l:=by
 unfold bitB
 rw [setN_bit fun x hx=>(h.range x hx).1];simp
theorem bitB_lt {l:List Int} {n:Nat} (h:IsS l n) {j:Nat} (hj:bitB l j=true):j<n:=by
 have:=h.range _ ((bitB_mem h j).1 hj);omega
theorem IsS.filt {l:List Int} {n:Nat} (h:IsS l n):l=filtB (bitB l) n:=by
 refine Asc.ext h.asc (filtB_asc _ _) fun x=>?_
 rw [mem_filtB]
 constructor
 ·intro hx
  have:=h.range x hx
  refine ⟨x.toNat,by omega,by omega,(bitB_mem h _).2 ?_⟩
  rwa [show ((x.toNat:Nat):Int)=x by omega]
 ·rintro ⟨j,rfl,_,hj⟩
  exact (bitB_mem h j).1 hj
def degB (es:List (Int × Int)) (p:Nat→Bool) (w:Int):Nat:=(filtB (fun j=>on (es.getD j (0,0)) w&&p j) es.length).length
def keptL (es:List (Int × Int)) (l:List Int):List (Int × Int):=l.map fun i=>es.getD i.toNat (0,0)
end Go.Proofs
namespace Go.Proofs
open Go.Abs

def eAdj (es:List (Int × Int)) (p:Nat→Bool) (i j:Nat):Prop:=j<es.length∧p j=true∧share (es.getD i (0,0)) (es.getD j (0,0))
noncomputable def rchB (adj:Nat→Nat→Prop) (e:Nat) (j:Nat):Bool:=decide (Rch adj e j)
theorem rchB_iff {adj:Nat→Nat→Prop} {e j:Nat}:rchB adj e j=true↔Rch adj e j:=by unfold rchB;simp
theorem share_symm {a b:Int × Int} (h:share a b):share b a:=by
 obtain ⟨v,h1,h2⟩:=h;exact ⟨v,h2,h1⟩
section
variable {es:List (Int × Int)} {p:Nat→Bool} {l:List Int}
theorem eRch_in {i j:Nat} (h:Rch (eAdj es p) i j) (hi:i<es.length∧p i=true):j<es.length∧p j=true:=
 h.keep (P:=fun x=>x<es.length∧p x=true) (fun x y hxy _=>⟨hxy.1,hxy.2.1⟩) hi
theorem eRch_symm {i j:Nat} (h:Rch (eAdj es p) i j) (hi:i<es.length∧p i=true):Rch (eAdj es p) j i:=by
 have:∀ x,Rch (eAdj es p) i x→Rch (eAdj es p) x i∧(x<es.length∧p x=true):=by
  intro x hx
  induction hx with
  | refl=>exact ⟨.refl,hi⟩
  | step _ h2 ih=>exact ⟨(Rch.step .refl ⟨ih.2.1,ih.2.2,share_symm h2.2.2⟩).trans ih.1,h2.1,h2.2.1⟩
 exact (this j h).1
def cLead (es:List (Int × Int)) (p:Nat→Bool) (i:Nat):Prop:=∀ j,j<i→p j=true→¬ Rch (eAdj es p) j i
noncomputable def cLeadB (es:List (Int × Int)) (p:Nat→Bool) (i:Nat):Bool:=@decide (cLead es p i) (Classical.propDecidable _)
theorem cLeadB_iff {i:Nat}:cLeadB es p i=true↔cLead es p i:=by unfold cLeadB;simp
theorem lead_of {i:Nat} (hp:p i=true) (hn:¬ cLead es p i):∃ j,j<i∧p j=true∧cLead es p j∧Rch (eAdj es p) j i:=by
 induction i using Nat.strongRecOn with
 | _ i ih=>
  have:∃ j,j<i∧p j=true∧Rch (eAdj es p) j i:=by
   apply Classical.byContradiction
   intro h
   exact hn fun j h1 h2 h3=>h ⟨j,h1,h2,h3⟩
  obtain ⟨j,h1,h2,h3⟩:=this
  by_cases hl:cLead es p j
  ·exact ⟨j,h1,h2,hl,h3⟩
  ·obtain ⟨j',g1,g2,g3,g4⟩:=ih j h1 h2 hl
   exact ⟨j',by omega,g2,g3,g4.trans h3⟩
noncomputable def compL (es:List (Int × Int)) (p:Nat→Bool) (i:Nat):List Int:=filtB (rchB (eAdj es p) i) es.length
theorem asc_take {t:Nat} (ha:Asc l) (ht:t<l.length) (y:Int):y∈l.take t↔y∈l∧y<l[t]:=by
 unfold Asc at ha
 rw [List.pairwise_iff_getElem] at ha
 constructor
 ·intro h
  obtain ⟨i,hi,rfl⟩:=List.getElem_of_mem h
  rw [List.length_take] at hi
  rw [List.getElem_take]
  exact ⟨List.getElem_mem _,ha i t _ _ (by omega)⟩
 ·rintro ⟨h,hlt⟩
  obtain ⟨i,hi,rfl⟩:=List.getElem_of_mem h
  rcases Nat.lt_or_ge i t with h'|h'
  ·have:(l.take t)[i]'(by simp;omega)=l[i]:=List.getElem_take ..
   rw [← this];exact List.getElem_mem _
  ·rcases Nat.lt_or_ge t i with h2|h2
   ·have:=ha t i ht hi h2;omega
   ·obtain rfl:i=t:=by omega
    omega
theorem met_iff {n:Nat} (hl:l=filtB p es.length) {t:Nat} (ht:t<l.length):(∃ y∈l.take t,cLeadB es p y.toNat=true∧Rch (eAdj es p) y.toNat (l[t]).toNat)↔cLeadB es p (l[t]).toNat=false:=by
 have hasc:Asc l:=by rw [hl];exact filtB_asc _ _
 have hm:∀ x,x∈l↔∃ j:Nat,x=j∧j<es.length∧p j=true:=fun x=>by rw [hl];exact mem_filtB
 obtain ⟨i,hi,hi1,hi2⟩:=(hm _).1 (List.getElem_mem ht)
 rw [hi,Int.toNat_natCast]
 constructor
 ·rintro ⟨y,hy,h1,h2⟩
  rw [asc_take hasc ht] at hy
  obtain ⟨j,rfl,hj1,hj2⟩:=(hm y).1 hy.1
  rw [Int.toNat_natCast] at h2
  cases hb:cLeadB es p i with
  | false=>rfl
  | true=>exact absurd h2 (cLeadB_iff.1 hb j (by omega) hj2)
 ·intro hb
  obtain ⟨j,h1,h2,h3,h4⟩:=lead_of (es:=es) hi2 fun h=>by rw [cLeadB_iff.2 h] at hb;cases hb
  refine ⟨j,(asc_take hasc ht _).2 ⟨(hm _).2 ⟨j,rfl,by omega,h2⟩,by omega⟩,?_,?_⟩
  ·exact cLeadB_iff.2 h3
  ·exact h4
theorem compL_asc (i:Nat):Asc (compL es p i):=filtB_asc _ _
theorem mem_compL {i:Nat} {x:Int}:x∈compL es p i↔∃ j:Nat,x=j∧j<es.length∧Rch (eAdj es p) i j:=by
 unfold compL;rw [mem_filtB]
 exact ⟨fun ⟨j,h1,h2,h3⟩=>⟨j,h1,h2,rchB_iff.1 h3⟩,fun ⟨j,h1,h2,h3⟩=>⟨j,h1,h2,rchB_iff.2 h3⟩⟩
end
def vAdj (fs:List (Int × Int)) (a b:Nat):Prop:=((a:Int),(b:Int))∈fs∨((b:Int),(a:Int))∈fs
theorem vAdj_symm {fs:List (Int × Int)} (a b:Nat) (h:vAdj fs a b):vAdj fs b a:=Or.symm h
theorem kept_mem {es:List (Int × Int)} {p:Nat→Bool} {e:Int × Int}:e∈keptL es (filtB p es.length)↔∃ j,j<es.length∧p j=true∧e=es.getD j (0,0):=by
 unfold keptL
 rw [List.mem_map]
 constructor
 ·rintro ⟨x,hx,rfl⟩
  obtain ⟨j,rfl,h1,h2⟩:=mem_filtB.1 hx
  exact ⟨j,h1,h2,rfl⟩
 ·rintro ⟨j,h1,h2,rfl⟩
  exact ⟨j,mem_filtB.2 ⟨j,rfl,h1,h2⟩,rfl⟩
theorem part_iff {es:List (Int × Int)} {p:Nat→Bool} (hr:∀ e∈es,0≤e.1∧0≤e.2) {a b:Nat} (ha:a<es.length∧p a=true) (hb:b<es.length∧p b=true) :
 Rch (vAdj (keptL es (filtB p es.length))) (es.getD a (0,0)).1.toNat (es.getD b (0,0)).1.toNat↔Rch (eAdj es p) a b:=by
 have nn:∀ j,j<es.length→0≤(es.getD j (0,0)).1∧0≤(es.getD j (0,0)).2:=fun j hj=>by rw [getD_of hj];exact hr _ (List.getElem_mem hj)
 have onl:∀ e:Int × Int,on e e.1=true:=fun e=>by unfold on;simp
 have onr:∀ e:Int × Int,on e e.2=true:=fun e=>by unfold on;simp
 constructor
 ·intro h
  have key:∀ w,Rch (vAdj (keptL es (filtB p es.length))) (es.getD a (0,0)).1.toNat w→∀ f,f<es.length→p f=true→on (es.getD f (0,0)) w=true→Rch (eAdj es p) a f:=by
   intro w hw
   induction hw with
   | refl=>
    intro f h1 h2 h3
    exact .step .refl ⟨h1,h2,(es.getD a (0,0)).1,onl _,by have:=(nn a ha.1).1;rwa [show (((es.getD a (0,0)).1.toNat:Nat):Int)=(es.getD a (0,0)).1 by omega] at h3⟩
   | @step x y _ h2 ih=>
    intro f g1 g2 g3
    have:∃ j,j<es.length∧p j=true∧on (es.getD j (0,0)) x=true∧on (es.getD j (0,0)) y=true:=by
     rcases h2 with h2|h2
     ·obtain ⟨j,j1,j2,j3⟩:=kept_mem.1 h2
      exact ⟨j,j1,j2,by rw [← j3];exact onl _,by rw [← j3];exact onr _⟩
     ·obtain ⟨j,j1,j2,j3⟩:=kept_mem.1 h2
      exact ⟨j,j1,j2,by rw [← j3];exact onr _,by rw [← j3];exact onl _⟩
    obtain ⟨j,j1,j2,j3,j4⟩:=this
    exact .step (ih j j1 j2 j3) ⟨g1,g2,y,j4,g3⟩
  exact key _ h b hb.1 hb.2 (by have:=(nn b hb.1).1;rw [show (((es.getD b (0,0)).1.toNat:Nat):Int)=(es.getD b (0,0)).1 by omega];exact onl _)
 ·intro h
  have joined:∀ j,j<es.length→p j=true→∀ v,on (es.getD j (0,0)) v=true→Rch (vAdj (keptL es (filtB p es.length))) (es.getD j (0,0)).1.toNat v.toNat:=by
   intro j j1 j2 v hv
   have:=nn j j1
   unfold on at hv
   simp only [Bool.or_eq_true,beq_iff_eq] at hv
   rcases hv with rfl|rfl
   ·exact .refl
   ·refine .step .refl (.inl ?_)
    rw [show (((es.getD j (0,0)).1.toNat:Nat):Int)=(es.getD j (0,0)).1 by omega,show (((es.getD j (0,0)).2.toNat:Nat):Int)=(es.getD j (0,0)).2 by omega]
    exact kept_mem.2 ⟨j,j1,j2,rfl⟩
  have key:∀ f,Rch (eAdj es p) a f→(f<es.length∧p f=true)∧Rch (vAdj (keptL es (filtB p es.length))) (es.getD a (0,0)).1.toNat (es.getD f (0,0)).1.toNat:=by
   intro f hf
   induction hf with
   | refl=>exact ⟨ha,.refl⟩
   | step _ h2 ih=>
    obtain ⟨g1,g2,v,g3,g4⟩:=h2
    exact ⟨⟨g1,g2⟩,ih.2.trans ((joined _ ih.1.1 ih.1.2 v g3).trans ((joined _ g1 g2 v g4).symm vAdj_symm))⟩
  exact (key b h).2
end Go.Proofs
namespace Go.Abs
open Go.RowKit

section
variable {T:TT} {H H0 G:AHeap} {v:Value} {l:List Int} {m:Nat} {t:TypeId} {z:Nat} {cs:List Value}

theorem lenK_of {a:Option Addr} {n c:Nat} {K:Nat→Prop} (k:K n):lenK (.slice a n c) K:=k
structure Keep (m:Nat) (H G:AHeap):Prop where
 len:H.length≤G.length
 old:∀ (b:Nat) (o:AObj),b<m→H[b]?=some (some o)→G[b]?=some (some o)
theorem Keep.refl:Keep m H H:=⟨Nat.le_refl _,fun _ _ _ h=>h⟩
theorem Keep.trans {G':AHeap} (h:Keep m H G) (k:Keep m G G'):Keep m H G':=⟨Nat.le_trans h.len k.len,fun b o hb ho=>k.old b o hb (h.old b o hb ho)⟩
theorem Keep.of_le (h:H.le G):Keep m H G:=⟨h.1,fun b o _ ho=>h.2 b o ho⟩
theorem Keep.le (h:Keep m H G) (h0:H0.le H) (hm:H0.length≤m):H0.le G:=⟨Nat.le_trans h0.1 h.len,fun b o ho=>h.old b o (by have:=lt_of_get ho;omega) (h0.2 b o ho)⟩
theorem Keep.own {b:Nat} (h:Keep m H G) (o:Own H b t cs) (hb:b<m):Own G b t cs:=h.old b _ hb o
theorem Own.lt {b:Nat} (o:Own H b t cs):b<H.length:=lt_of_get o
theorem Own.le {b:Nat} (o:Own H b t cs) (h:H.le G):Own G b t cs:=h.2 _ _ o
def Sl (m:Nat) (H:AHeap) (v:Value) (t:TypeId) (z:Nat) (cs:List Value):Prop:=
 (cs=[]∧(v=.slice none 0 0∨∃ a,v=.slice (some a) 0 0))∨∃ b n pre post,m≤b∧v=.slice (some ⟨b,List.length pre,none⟩) n (n+1)∧Own H b t (pre++cs++post)∧cs.length=n*z
theorem Fresh.sl (h:Fresh m H v t z cs):Sl m H v t z cs:=by
 rcases h with h|⟨b,n,h1,h2,h3,h4⟩
 ·exact .inl h
 ·exact .inr ⟨b,n,[],[],h1,h2,by simpa using h3,h4⟩
theorem Sl.le (h:Sl m H v t z cs) (hl:H.le G):Sl m G v t z cs:=by
 rcases h with h|⟨b,n,pre,post,h1,h2,h3,h4⟩
 ·exact .inl h
 ·exact .inr ⟨b,n,pre,post,h1,h2,h3.le hl,h4⟩
theorem Sl.less {m':Nat} (h:Sl m H v t z cs) (hm:m'≤m):Sl m' H v t z cs:=by
 rcases h with h|⟨b,n,pre,post,h1,h2,h3,h4⟩
 ·exact .inl h
 ·exact .inr ⟨b,n,pre,post,by omega,h2,h3,h4⟩
theorem Sl.but {b:Nat} (h:Sl m H v t z cs) (hb:But b H G) (hm:b<m):Sl m G v t z cs:=by
 rcases h with h|⟨c,n,pre,post,h1,h2,h3,h4⟩
 ·exact .inl h
 ·exact .inr ⟨c,n,pre,post,h1,h2,hb.own h3 (by omega),h4⟩
theorem Fresh.but {b:Nat} (h:Fresh m H v t z cs) (hb:But b H G) (hm:b<m):Fresh m G v t z cs:=by
 rcases h with h|⟨c,n,h1,h2,h3,h4⟩
 ·exact .inl h
 ·exact .inr ⟨c,n,h1,h2,hb.own h3 (by omega),h4⟩
theorem Sl.nil:Sl m H (.slice none 0 0) t z []:=.inl ⟨rfl,.inl rfl⟩
theorem Sl.ints (h:Sl m H v t 1 (LI l)):Ints H v l:=by
 rcases h with ⟨h1,h2⟩|⟨b,n,pre,post,h1,rfl,h3,h4⟩
 ·have:l=[]:=by simpa using h1
  subst this
  rcases h2 with rfl|⟨a,rfl⟩
  ·exact .inl ⟨rfl,rfl⟩
  ·exact .inr ⟨a,0,rfl,.inl rfl⟩
 ·simp at h4
  subst h4
  refine .inr ⟨_,_,rfl,.inr ⟨rfl,fun i x hx=>?_⟩⟩
  have hi:i<l.length:=lt_of_get hx
  rw [h3.cell,List.append_assoc,List.getElem?_append_right (Nat.le_add_right _ _),Nat.add_sub_cancel_left,List.getElem?_append_left (by simpa using hi)]
  simp [hx]
theorem Sl.len (h:Sl m H v t z cs) {n:Nat} (hz:0<z) (hn:cs.length=n*z) {K:Nat→Prop} (k:K n):lenK v K:=by
 rcases h with ⟨h1,h2⟩|⟨b,n',pre,post,h1,rfl,h3,h4⟩
 ·subst h1
  have:n=0:=by
   cases n with
   | zero=>rfl
   | succ n=>simp [Nat.add_mul] at hn;omega
  subst this
  rcases h2 with rfl|⟨a,rfl⟩ <;> exact k
 ·have:n'=n:=Nat.eq_of_mul_eq_mul_right hz (h4.symm.trans hn)
  subst this;exact k
def bk:Value→Option Nat
 | .slice (some a) _ (_+1)=>some a.block
 | _=>none
theorem Sl.lt (h:Sl m H v t z cs) {b:Nat} (hb:bk v=some b):m≤b∧b<H.length:=by
 rcases h with ⟨_,rfl|⟨a,rfl⟩⟩|⟨b',n,pre,post,h1,rfl,h3,_⟩
 ·cases hb
 ·cases hb
 ·cases hb;exact ⟨h1,h3.lt⟩
def Oth (v:Value) (H G:AHeap):Prop:=∀ (b:Nat) (o:AObj),bk v≠some b→H[b]?=some (some o)→G[b]?=some (some o)
theorem Sl.oth {w:Value} (h:Sl m H v t z cs) (k:Oth w H G) (hn:∀ b,bk v=some b→bk w≠some b):Sl m G v t z cs:=by
 rcases h with h|⟨b,n,pre,post,h1,rfl,h3,h4⟩
 ·exact .inl h
 ·exact .inr ⟨b,n,pre,post,h1,rfl,k b _ (hn b rfl) h3,h4⟩
theorem Fresh.bk_lt (h:Fresh m H v t z cs) {b:Nat} (hb:bk v=some b):m≤b∧b<H.length:=h.sl.lt hb
def Elem (T:TT) (t:TypeId) (z:Nat):Prop:=∃ ti,T t=some ti∧ti.size=z∧ti.bytes≤1024∧ti.fine=true
theorem Sl.app {ys:List Value} {x:Value} {n:Nat} {K:Value→AHeap→Prop} (he:Elem T t z) (hz:0<z) (h:Sl m H v t z cs) (hm:m≤H.length) (hx:cellsAt H x z n ys) (hs:cs.length+ys.length≤4294967296)
 (k0:ys=[]→K v H) (k:∀ v' G,Keep m H G→Oth v H G→(∀ b,bk v'=some b→H.length≤b)→Fresh m G v' t z (cs++ys)→K v' G):apK T t H v x K:=by
 obtain ⟨ti,e1,rfl,e3,e4⟩:=he
 unfold apK
 rw [e1]
 simp only
 have hyl:=hx.1
 by_cases hn:n=0
 ·subst hn
  have:ys=[]:=List.length_eq_zero_iff.1 (by omega)
  subst this
  refine ⟨0,[],hx,.inl ⟨rfl,?_,k0 rfl⟩⟩
  rcases h with ⟨_,rfl|⟨a,rfl⟩⟩|⟨b,n,pre,post,_,rfl,_⟩
  ·exact .inr rfl
  ·exact .inl ⟨a,0,0,rfl⟩
  ·exact .inl ⟨_,_,_,rfl⟩
 ·refine ⟨n,ys,hx,.inr ⟨by omega,?_⟩⟩
  have hle:n≤n*ti.size:=Nat.le_mul_of_pos_right _ hz
  rcases h with ⟨rfl,h1⟩|⟨b,n',pre,post,hb,rfl,h3,h4⟩
  ·refine ⟨0,[],H,?_,by simp at hs;omega,e3,e4,hz,k _ _ (Keep.of_le (le_snoc _ _)) (fun b o _ h=>(le_snoc _ _).2 b o h) (fun b h=>by cases h;exact Nat.le_refl _) ?_⟩
   ·rcases h1 with rfl|⟨a,rfl⟩
    ·exact .inl ⟨rfl,rfl,rfl,rfl⟩
    ·exact .inr (.inl ⟨a,rfl,rfl,rfl,rfl⟩)
   ·rw [Nat.zero_add];exact (fresh_snoc (by simpa using hyl)).less hm
  ·have hml:n'≤n'*ti.size:=Nat.le_mul_of_pos_right _ hz
   refine ⟨n',cs,H.set b none,.inr (.inr ⟨b,pre.length,n'+1,_,rfl,h3,by simp;omega,?_,rfl⟩),by omega,e3,e4,hz,k _ _ ?_ ?_ (fun b h=>by cases h;exact Nat.le_refl _) ?_⟩
   ·rw [List.append_assoc,List.drop_left,← h4,List.take_left]
   ·refine ⟨by simp,fun d o hd ho=>?_⟩
    have:=lt_of_get ho
    rw [List.getElem?_append_left (by simpa using this),List.getElem?_set_ne (by omega)];exact ho
   ·intro d o hd ho
    have:=lt_of_get ho
    rw [List.getElem?_append_left (by simpa using this),List.getElem?_set_ne (fun h=>hd (by rw [h];rfl))];exact ho
   ·refine .inr ⟨H.length,n'+n,hm,rfl,?_,by simp [h4,hyl,Nat.add_mul]⟩
    have:(H.set b none).length=H.length:=by simp
    rw [← this];exact snoc_get _ _
theorem Sl.pushN {ys:List Value} {n:Nat} {K:Value→AHeap→Prop} (he:Elem T t z) (hz:0<z) (h:Sl m H v t z cs) (hm:m≤H.length) (hy:ys.length=n*z) (h1:ys.all Value.oneCell'=true) (hs:cs.length+ys.length≤4294967296)
 (k0:ys≠[]) (k:∀ v' G,Keep m H G→Oth v H G→(∀ b,bk v'=some b→H.length≤b)→Fresh m G v' t z (cs++ys)→K v' G):newK H ys t (fun b1 H2=>apK T t H2 v (.slice (some ⟨b1,0,none⟩) n (n+1)) K):=by
 refine newK_f h1 fun H2 l2 n2 o2=>?_
 exact Sl.app he hz (h.le l2) (Nat.le_trans hm l2.1) (cellsAt_row o2 hy) hs (fun h=>absurd h k0) fun v' G hk ho hn hf=>k v' G ((Keep.of_le l2).trans hk) (fun b o hb h=>ho b o hb (l2.2 b o h)) (fun b h=>Nat.le_trans l2.1 (hn b h)) hf
theorem Sl.drop {i:Nat} {n:Nat} {K:Value→Prop} (h:Sl m H v t z cs) (hn:cs.length=n*z) (hz:0<z) (h0:0<n) (hi:i≤n) (k:∀ v',Sl m H v' t z (cs.drop (i*z))→K v'):sliceK H t v (some (.int .i64 (i:Int))) none z K:=by
 have hle:i*z≤n*z:=Nat.mul_le_mul_right z hi
 have hnz:n≤n*z:=Nat.le_mul_of_pos_right _ hz
 rcases h with ⟨rfl,h1⟩|⟨b,n',pre,post,hb,rfl,h3,h4⟩
 ·simp at hn;omega
 ·have:n'=n:=Nat.eq_of_mul_eq_mul_right hz (h4.symm.trans hn)
  subst this
  refine ⟨⟨_,_,h3,by simp;omega⟩,by simp,by simp;omega,by simp,?_⟩
  refine k _ (.inr ⟨b,n'-i,pre++cs.take (i*z),post,hb,?_,?_,?_⟩)
  ·simp [Nat.min_eq_left (show i*z≤cs.length by omega)]
  ·rw [List.append_assoc pre,List.take_append_drop];exact h3
  ·rw [List.length_drop,hn,Nat.sub_mul]
end
end Go.Abs
namespace Go.Proofs
open Go.Abs

variable {H:AHeap} {v u f:Value} {l m c:List Int} {es fs:List (Int × Int)} {K:Value→AHeap→Prop}

theorem E_int:Elem T0 2 1:=⟨tiInt,T0_int.1,T0_int.2.1,by rw [T0_int.2.2.1];decide,T0_int.2.2.2⟩
theorem setB {S:List Bool} {y:Nat} (h:y<S.length) (j:Nat):(S.set y true).getD j false=insB (fun j=>S.getD j false) y j:=by
 unfold insB
 simp only [List.getD,List.getElem?_set]
 by_cases e:y=j
 ·subst e;simp [h]
 ·simp [e]
theorem LB_get {S:List Bool} {i:Nat} (h:i<S.length):(LB S)[i]?=some (.bool (S.getD i false)):=by simp [h]
abbrev NI (Q:List Nat):List Int:=Q.map Int.ofNat
def lenV:Value→Nat
 | .slice _ n _=>n
 | _=>0
theorem Sl_lenV {m:Nat} {t:TypeId} {cs:List Value} (h:Sl m H v t 1 cs):lenV v=cs.length:=by
 rcases h with ⟨rfl,rfl|⟨a,rfl⟩⟩|⟨b,n,pre,post,_,rfl,_,h⟩
 ·rfl
 ·rfl
 ·simp [lenV,h]
theorem isOn_ok {e:Int × Int} {x:Int} (k:∀ G,H.le G→K (.bool (on e x)) G):AC Tryz.prog T0 169 [ve e,.int .i64 x] H K:=by
 apply F169.ac
 unfold F169.B2
 refine newK_f rfl fun H1 l1 n1 o1=>?_
 unfold F169.B1
 have k:=k _ l1
 refine ldI_own o1 rfl (pif_cases (fun hb=>?_) fun hb=>?_)
 ·rw [show on e x=true by unfold on;rw [hb];rfl] at k;exact k
 ·rw [show on e x=(e.2==x) by unfold on;rw [hb];rfl] at k
  exact ldI_own o1 rfl k
theorem at_ok {n x:Int} (h:Edges H v es) (hl:es.length≤1048576) (k:∀ v' G,H.le G→Sl H.length G v' 2 1 (LI (atL es x))→K v' G):AC Tryz.prog T0 112 [.agg ⟨[.int .i64 n,v]⟩,.int .i64 x] H K:=by
 apply F112.ac
 unfold F112.B10
 refine newK_f (all_iv (edges_one' h)) fun H1 l1 n1 o1=>?_
 unfold F112.B9 F112.B8
 refine ld1_own o1 rfl ((h.le l1).len ?_)
 unfold F112.L2
 refine ⟨fun x1 x5 x9 x10 x11 G=>x=x1∧v=x9∧(es.length:Int)=x10∧H.le G∧∃ i:Nat,x11=i∧i≤es.length∧Sl H.length G x5 2 1 (LI (atTo es x i)),fun _ _ _ _ x11 _=>es.length-x11.toNat,⟨rfl,rfl,rfl,l1,0,rfl,by omega,.nil⟩,?_⟩
 rintro x1 x5 x9 x10 x11 G ⟨rfl,rfl,rfl,hG,i,rfl,hi,hF⟩
 unfold F112.B7
 refine pif_cases (fun hb=>?_) fun hb=>?_
 ·have hlt:i<es.length:=by have:=of_decide_eq_true hb;omega
  unfold F112.B6
  obtain ⟨b,o,hk,c1,c2⟩:=(h.le hG).idx (show (0:Int)≤i by omega) (by omega)
  simp only [Int.toNat_natCast] at c1 c2
  refine hk _ (ldI_mk c1 (ldI_mk c2 (newK_f rfl fun H2 l2 n2 o2=>stK_f o2 (by simp) (by simp [Value.oneCell']) rfl fun H3 b3 o3=>?_)))
  have l3:G.le H3:=b3.le l2 (Nat.le_refl _)
  unfold F112.B5
  refine ldI_own o3 rfl (ldI_own o3 rfl (isOn_ok (e:=es.getD i (0,0)) fun H4 l4=>asB_mk ?_))
  have l4:=AHeap.le_trans l3 l4
  have hF:=hF.le l4
  have lG:=AHeap.le_trans hG l4
  refine pif_cases (fun hs=>?_) fun hs=>?_
  ·unfold F112.B4
   refine hF.pushN E_int (by decide) lG.1 (n:=1) (ys:=[.int .i64 i]) rfl rfl (by have:=atTo_length es x i;simp;omega) (by simp) fun v' G2 k2 _ _ f2=>?_
   unfold F112.B3
   rw [wrap_id (by omega) (by omega)]
   refine ⟨⟨rfl,rfl,rfl,k2.le lG (Nat.le_refl _),i+1,by omega,by omega,?_⟩,by simp;omega⟩
   rw [atTo_succ,if_pos hs]
   simpa using f2.sl
  ·unfold F112.B3
   rw [wrap_id (by omega) (by omega)]
   refine ⟨⟨rfl,rfl,rfl,lG,i+1,by omega,by omega,?_⟩,by simp;omega⟩
   rw [atTo_succ,if_neg (by rw [hs];decide),List.append_nil];exact hF
 ·have hge:i=es.length:=by have:=of_decide_eq_false hb;omega
  subst hge
  unfold F112.B1
  exact k _ _ hG hF
structure InX (es:List (Int × Int)) (p:Nat→Bool) (e x M:Nat) (D:Nat→Prop) (S:Nat→Bool) (Q:List Nat):Prop where
 ex:Ex (eAdj es p) e S (x::Q)
 bnd:∀ y,S y=true→y<es.length
 mu:2*unseen S es.length+(Q.length+1)≤M
 past:∀ j,D j→S j=true
theorem InX.more {es:List (Int × Int)} {p:Nat→Bool} {e x M:Nat} {D D':Nat→Prop} {S:Nat→Bool} {Q:List Nat} (h:InX es p e x M D S Q) (hd:∀ j,D' j→D j∨S j=true):InX es p e x M D' S Q:=
 ⟨h.ex,h.bnd,h.mu,fun j hj=>(hd j hj).elim (h.past j) id⟩
theorem InX.push {es:List (Int × Int)} {p:Nat→Bool} {e x M y:Nat} {D D':Nat→Prop} {S S':Nat→Bool} {Q:List Nat} (h:InX es p e x M D S Q) (hy:eAdj es p x y) (hn:S y=false) (hs:∀ j,S' j=insB S y j) (hd:∀ j,D' j→D j∨j=y):InX es p e x M D' S' (Q++[y]):=by
 obtain rfl:S'=insB S y:=funext hs
 have hx:S x=true:=h.ex.q x (by simp)
 refine ⟨h.ex.push hx hy,fun z hz=>?_,?_,fun j hj=>?_⟩
 ·by_cases e':z=y
  ·rw [e'];exact hy.1
  ·exact h.bnd z (insB_ne hz e')
 ·have:=unseen_ins (n:=es.length) hy.1 hn
  have:=h.mu
  simp;omega
 ·rcases hd j hj with hj|rfl
  ·exact insB_of (h.past j hj)
  ·exact insB_self _ _
theorem InX.pop {es:List (Int × Int)} {p:Nat→Bool} {e x M:Nat} {D:Nat→Prop} {S:Nat→Bool} {Q:List Nat} (h:InX es p e x M D S Q) (hd:∀ j,j<es.length→p j=true→(on (es.getD j (0,0)) (en (es.getD x (0,0)) 0)=true∨on (es.getD j (0,0)) (en (es.getD x (0,0)) 1)=true)→D j):Ex (eAdj es p) e S Q∧2*unseen S es.length+Q.length<M:=by
 refine ⟨h.ex.pop fun y hy=>?_,by have:=h.mu;omega⟩
 obtain ⟨h1,h2,w,h3,h4⟩:=hy
 refine h.past y (hd y h1 h2 ?_)
 rcases on_cases h3 with rfl|rfl
 ·exact .inl h4
 ·exact .inr h4
theorem or_bit {s y:Nat} (j:Nat):(s|||2^y).testBit j=insB (fun j=>s.testBit j) y j:=by
 simp [insB,Nat.testBit_or,Nat.testBit_two_pow]
def PastE (es:List (Int × Int)) (p:Nat→Bool) (x m:Nat) (j:Nat):Prop:=j<es.length∧p j=true∧∃ m',m'<m∧on (es.getD j (0,0)) (en (es.getD x (0,0)) m')=true
def PastT (es:List (Int × Int)) (p:Nat→Bool) (x m t:Nat) (j:Nat):Prop:=PastE es p x m j∨(p j=true∧∃ t',t'<t∧(atL es (en (es.getD x (0,0)) m)).getD t' 0=j∧t'<(atL es (en (es.getD x (0,0)) m)).length)
theorem PastT.fin {es:List (Int × Int)} {p:Nat→Bool} {x m:Nat} {j:Nat} (h:PastE es p x (m+1) j):PastT es p x m (atL es (en (es.getD x (0,0)) m)).length j:=by
 obtain ⟨h1,h2,m',h3,h4⟩:=h
 by_cases e:m'=m
 ·subst e
  have hm:(j:Int)∈atL es (en (es.getD x (0,0)) m'):=mem_atL.2 ⟨j,rfl,h1,h4⟩
  obtain ⟨t,ht,hte⟩:=List.getElem_of_mem hm
  exact .inr ⟨h2,t,ht,by rw [getD_of ht,hte],ht⟩
 ·exact .inl ⟨h1,h2,m',by omega,h4⟩
theorem PastT.step {es:List (Int × Int)} {p:Nat→Bool} {x m t:Nat} {j:Nat} (h:PastT es p x m (t+1) j):PastT es p x m t j∨(p j=true∧(atL es (en (es.getD x (0,0)) m)).getD t 0=j):=by
 rcases h with h|⟨h1,t',h2,h3,h4⟩
 ·exact .inl (.inl h)
 ·by_cases e:t'=t
  ·subst e;exact .inr ⟨h1,h3⟩
  ·exact .inl (.inr ⟨h1,t',by omega,h3,h4⟩)
theorem at_get {es:List (Int × Int)} {w:Int} {t:Nat} (h:t<(atL es w).length):∃ i:Nat,(atL es w).getD t 0=i∧i<es.length∧on (es.getD i (0,0)) w=true:=by
 obtain ⟨i,h1,h2,h3⟩:=mem_atL.1 (List.getElem_mem h)
 exact ⟨i,by rw [getD_of h];exact h1,h2,h3⟩
def BitQ (m0:Nat) (X:(Nat→Bool)→List Nat→Prop) (w:Int) (q:Value) (G:AHeap):Prop:=∃ (s:Nat) (Q:List Nat),w=((s:Nat):Int)∧s<2^64∧X (fun j=>s.testBit j) Q∧Sl m0 G q 2 1 (LI (NI Q))
def chP (c:List Int) (e:Nat) (b:Int) (j:Nat):Bool:=c.getD j 0==c.getD e 0||c.getD j 0==b
end Go.Proofs
namespace Go.Proofs
open Go.Abs

variable {H:AHeap} {v u f:Value} {l m c:List Int} {es fs:List (Int × Int)} {K:Value→AHeap→Prop}

theorem and32 {y:Int} (h0:0≤y) (h1:y<4294967296):IntKind.u64.wrap (((BitVec.ofInt 64 y&&&BitVec.ofInt 64 4294967295).toNat:Nat):Int)=y:=by
 obtain ⟨n,rfl⟩:=Int.eq_ofNat_of_zero_le h0
 have h:(BitVec.ofInt 64 ((n:Nat):Int)&&&BitVec.ofInt 64 4294967295).toNat=n:=by
  rw [BitVec.toNat_and,show (BitVec.ofInt 64 4294967295).toNat=2^32-1 from by decide,Nat.and_two_pow_sub_one_eq_mod]
  simp only [BitVec.ofInt_natCast,BitVec.toNat_ofNat]
  omega
 rw [h]
 simp only [IntKind.wrap,IntKind.bits,IntKind.signed,Bool.false_and,Bool.false_eq_true,if_false]
 omega
theorem mul64_ok {y:Int} (h0:0≤y) (h1:y<4294967296) (k:K (.tuple ⟨[.int .u64 0,.int .u64 y]⟩) H):AC Tryz.prog T0 225 [.int .u64 1,.int .u64 y] H K:=by
 apply F225.ac
 have e0:Int.fdiv y (2^(min (Int.toNat 32) 64))=0:=by
  rw [show (2:Int)^(min (Int.toNat 32) 64)=4294967296 from by decide,Int.fdiv_eq_ediv_of_nonneg _ (by decide)];omega
 have w:∀ z:Int,0≤z→z<4294967296→IntKind.u64.wrap z=z:=by
  intro z a b;simp only [IntKind.wrap,IntKind.bits,IntKind.signed,Bool.false_and,Bool.false_eq_true,if_false];omega
 unfold F225.B12 F225.B11 F225.B10
 rw [and32 (by decide) (by decide)]
 refine ⟨by decide,?_⟩
 rw [show Int.fdiv 1 (2^(min (Int.toNat 32) 64))=0 from by decide]
 unfold F225.B9 F225.B8
 rw [and32 h0 h1]
 refine ⟨by decide,?_⟩
 rw [e0]
 unfold F225.B7 F225.B6
 refine ⟨by decide,?_⟩
 rw [Int.one_mul,w y h0 h1,e0,Int.zero_mul,w 0 (by decide) (by decide),show (0:Int)+0=0 from rfl,w 0 (by decide) (by decide)]
 unfold F225.B5 F225.B4
 rw [and32 (by decide) (by decide)]
 refine ⟨by decide,?_⟩
 rw [show Int.fdiv 0 (2^(min (Int.toNat 32) 64))=0 from by decide]
 unfold F225.B3 F225.B2
 refine ⟨by decide,?_⟩
 simp only [show (1:Int)*0=0 from rfl,show (0:Int)*0=0 from rfl,show (0:Int)+0=0 from rfl,w 0 (by decide) (by decide),show Int.fdiv 0 (2^(min (Int.toNat 32) 64))=0 from by decide]
 unfold F225.B1
 rw [Int.one_mul,w y h0 h1]
 exact k
theorem mul_ok {y:Int} (h0:0≤y) (h1:y<4294967296) (k:K (.tuple ⟨[.int .u64 0,.int .u64 y]⟩) H):AC Tryz.prog T0 207 [.int .u64 1,.int .u64 y] H K:=by
 apply F207.ac
 unfold F207.B3 F207.B2
 refine mul64_ok h0 h1 ?_
 exact k
end Go.Proofs
namespace Go.Proofs
open Go.Abs

variable {H:AHeap} {l s:List Int}

theorem cp_own {b o n c2 sb so m c:Nat} {K:Nat→AHeap→Prop} (hb:Own H b 2 (LI l)) (hs:Own H sb 2 (LI s)) (hm:0<m) (hn:0<n) (h1:so+m≤s.length) (h2:o+n≤l.length)
 (k:∀ G,But b H G→Own G b 2 (LI (l.take o++(s.drop so).take (Nat.min m n)++l.drop (o+Nat.min m n)))→K (Nat.min m n) G) :
 cpK T0 2 H (.slice (some ⟨b,o,none⟩) n c2) (.slice (some ⟨sb,so,none⟩) m c) K:=by
 have hq:Nat.min m n≤m∧Nat.min m n≤n∧0<Nat.min m n:=⟨Nat.min_le_left _ _,Nat.min_le_right _ _,Nat.lt_min.2 ⟨hm,hn⟩⟩
 have hl:(LI ((s.drop so).take (Nat.min m n))).length=Nat.min m n:=by simp only [LI,List.length_map,List.length_take,List.length_drop];omega
 refine .inr ⟨sb,so,m,c,b,o,n,c2,LI l,LI ((s.drop so).take (Nat.min m n)),rfl,rfl,hb,hq.2.2,?_,?_,?_,k _ But.set ?_⟩
 ·rw [hl];exact (Nat.mul_one _).symm
 ·intro i u hu
  rw [hs.cell]
  have hi:=lt_of_get hu
  rw [hl] at hi
  simp only [LI,List.getElem?_map] at hu ⊢
  rw [List.getElem?_take_of_lt hi,List.getElem?_drop] at hu
  exact hu
 ·rw [hl];simp only [LI,List.length_map];omega
 ·rw [hl]
  have:b<H.length:=lt_of_get hb
  simp only [Own,LI,List.map_append,List.map_take,List.map_drop]
  rw [List.getElem?_set_self this]
end Go.Proofs
namespace Go.Proofs
open Go.Abs

variable {H:AHeap} {l s:List Int}

theorem repeat_ok {b1:Nat} {t n:Int} {K:Value→AHeap→Prop} (o:Own H b1 2 (LI [t])) (h0:0≤n) (h1:n≤1000000)
 (k:∀ G,H.le G→Own G H.length 2 (LI (List.replicate n.toNat t))→K (.slice (some ⟨H.length,0,none⟩) n.toNat (n.toNat+1)) G) :
 AC Tryz.prog T0 177 [.slice (some ⟨b1,0,none⟩) 1 (1+1),.int .i64 n] H K:=by
 obtain ⟨N,rfl⟩:=Int.eq_ofNat_of_zero_le h0
 have hu:IntKind.u64.wrap ((N:Nat):Int)=N:=by simp only [IntKind.wrap,IntKind.bits,IntKind.signed,Bool.false_and,Bool.false_eq_true,if_false];omega
 have hb1:b1<H.length:=lt_of_get o
 apply F177.ac
 unfold F177.B10 F177.B9
 refine pif_f (by simp) ?_
 unfold F177.B8
 refine lenK_of ?_
 rw [hu,show IntKind.u64.wrap ((1:Nat):Int)=1 from by decide]
 refine mul_ok (by omega) (by omega) ?_
 show F177.B7 K _ 0 N H
 unfold F177.B7
 refine pif_f (by decide) (pif_f (by simp;omega) ?_)
 unfold F177.B6
 rw [wrap_id (by omega) (by omega)]
 refine mkR_int (by omega) (by omega) (by decide) fun H2 l2 n2 o2=>?_
 rw [rep_one,Int.toNat_natCast] at o2
 simp only [Int.toNat_natCast] at k ⊢
 unfold F177.B5
 have main:∀ (i:Nat) G,i≤N→(0<i∨N=0)→H.le G→Own G H.length 2 (LI (List.replicate i t++List.replicate (N-i) 0))→F177.L2 K (.slice (some ⟨H.length,0,none⟩) N (N+1)) (i:Int) G:=by
  intro i G hi hp hl ho
  unfold F177.L2
  refine ⟨fun x7 x8 G=>x7=.slice (some ⟨H.length,0,none⟩) N (N+1)∧∃ i:Nat,x8=i∧i≤N∧(0<i∨N=0)∧H.le G∧Own G H.length 2 (LI (List.replicate i t++List.replicate (N-i) 0)),fun _ x8 _=>N-x8.toNat,⟨rfl,i,rfl,hi,hp,hl,ho⟩,?_⟩
  rintro x7 x8 G ⟨rfl,i,rfl,hi,hp,hl,ho⟩
  unfold F177.B4
  refine lenK_of ?_
  by_cases h:i<N
  ·refine pif_t (by simp;omega) ?_
   unfold F177.B3
   refine ⟨⟨_,_,ho,by simp [LI];omega⟩,by omega,by omega,by omega,?_⟩
   refine ⟨⟨_,_,ho,by simp [LI];omega⟩,by omega,by omega,by omega,?_⟩
   simp only [Int.toNat_natCast,Nat.zero_add,Nat.mul_one,Int.toNat_zero,Nat.zero_mul,Nat.sub_zero]
   refine cp_own ho ho (by omega) (by omega) (by first|(simp;done)|(simp;omega)) (by first|(simp;done)|(simp;omega)) fun G2 b2 o2=>?_
   have hq:Nat.min i (N-i)≤i∧Nat.min i (N-i)≤N-i∧0<Nat.min i (N-i):=⟨Nat.min_le_left _ _,Nat.min_le_right _ _,Nat.lt_min.2 ⟨by omega,by omega⟩⟩
   generalize Nat.min i (N-i)=q at hq o2 ⊢
   rw [wrap_id (by omega) (by omega)]
   refine ⟨⟨by first|trivial|rfl,i+q,by omega,by omega,by omega,b2.le hl (Nat.le_refl _),?_⟩,by omega⟩
   have e:(List.replicate i t++List.replicate (N-i) 0).take i++((List.replicate i t++List.replicate (N-i) 0).drop 0).take q++(List.replicate i t++List.replicate (N-i) 0).drop (i+q)=List.replicate (i+q) t++List.replicate (N-(i+q)) 0:=by
    rw [List.take_left' (by simp),List.drop_zero,List.take_append_of_le_length (by simp;omega),List.take_replicate,Nat.min_eq_left hq.1,List.replicate_append_replicate,List.drop_append,List.drop_eq_nil_of_le (by simp),List.nil_append,List.drop_replicate,List.length_replicate]
    congr 2;omega
   rw [e] at o2
   exact o2
  ·refine pif_f (by simp;omega) ?_
   unfold F177.B1
   obtain rfl:i=N:=by omega
   exact k _ hl (by simpa using ho)
 by_cases hN:N=0
 ·subst hN
  exact .inl ⟨_,_,_,_,_,_,rfl,rfl,.inr rfl,main 0 H2 (by omega) (.inr rfl) l2 (by simpa using o2)⟩
 ·refine cp_own o2 (l2.2 _ _ o) (by omega) (by omega) (by simp) (by simp) fun G b2 o3=>?_
  have hq:Nat.min 1 N=1:=Nat.min_eq_left (by omega)
  rw [hq] at o3 ⊢
  refine main 1 G (by omega) (.inl (by omega)) (b2.le l2 (Nat.le_refl _)) ?_
  simpa using o3
end Go.Proofs
namespace Go.Proofs
open Go.Abs

variable {H:AHeap} {v u f:Value} {l m c:List Int} {es fs:List (Int × Int)} {K:Value→AHeap→Prop}

end Go.Proofs
namespace Go.Proofs
open Go.Abs

def restTo (es:List (Int × Int)) (p:Nat→Bool) (k:Nat):List (Int × Int):=((List.range k).filter fun j=>!p j).map fun j=>es.getD j (0,0)
def restL (es:List (Int × Int)) (p:Nat→Bool):List (Int × Int):=restTo es p es.length
theorem restTo_succ (es:List (Int × Int)) (p:Nat→Bool) (k:Nat):restTo es p (k+1)=restTo es p k++if p k then [] else [es.getD k (0,0)]:=by
 unfold restTo
 rw [List.range_succ,List.filter_append,List.map_append]
 congr 1
 cases h:p k <;> simp [h]
theorem mem_restL {es:List (Int × Int)} {p:Nat→Bool} {e:Int × Int}:e∈restL es p↔∃ j,j<es.length∧p j=false∧e=es.getD j (0,0):=by
 unfold restL restTo
 rw [List.mem_map]
 constructor
 ·rintro ⟨j,hj,rfl⟩
  rw [List.mem_filter,List.mem_range] at hj
  exact ⟨j,hj.1,by simpa using hj.2,rfl⟩
 ·rintro ⟨j,h1,h2,rfl⟩
  exact ⟨j,by rw [List.mem_filter,List.mem_range];exact ⟨h1,by simpa using h2⟩,rfl⟩
theorem restTo_none (es:List (Int × Int)) {p:Nat→Bool} (h:∀ j,p j=false):∀ k,k≤es.length→restTo es p k=es.take k
 | 0,_=>by simp [restTo]
 | k+1,hk=>by
  rw [restTo_succ,restTo_none es h k (by omega),h k,List.take_succ_eq_append_getElem (show k<es.length by omega),getD_of (show k<es.length by omega)];rfl
theorem restL_none (es:List (Int × Int)) {p:Nat→Bool} (h:∀ j,p j=false):restL es p=es:=by
 unfold restL;rw [restTo_none es h _ (Nat.le_refl _),List.take_length]
noncomputable def vLeadB (fs:List (Int × Int)) (i:Nat):Bool:=@decide (∀ b,b<i→¬ Rch (vAdj fs) b i) (Classical.propDecidable _)
theorem vLeadB_iff {fs:List (Int × Int)} {i:Nat}:vLeadB fs i=true↔∀ b,b<i→¬ Rch (vAdj fs) b i:=by unfold vLeadB;simp
noncomputable def sideL (fs:List (Int × Int)) (n v:Nat):List Int:=filtB (rchB (vAdj fs) v) n
noncomputable def sidesTo (fs:List (Int × Int)) (n k:Nat):List (List Int):=((List.range k).filter (vLeadB fs)).map (sideL fs n)
noncomputable def sidesL (fs:List (Int × Int)) (n:Nat):List (List Int):=sidesTo fs n n
theorem sidesTo_succ (fs:List (Int × Int)) (n k:Nat):sidesTo fs n (k+1)=sidesTo fs n k++if vLeadB fs k then [sideL fs n k] else []:=by
 unfold sidesTo
 rw [List.range_succ,List.filter_append,List.map_append]
 congr 1
 cases h:vLeadB fs k <;> simp [h]
theorem sidesTo_length (fs:List (Int × Int)) (n k:Nat):(sidesTo fs n k).length≤k:=by
 unfold sidesTo;rw [List.length_map]
 exact Nat.le_trans (List.length_filter_le _ _) (by simp)
theorem mem_sideL {fs:List (Int × Int)} {n v:Nat} {x:Int}:x∈sideL fs n v↔∃ j:Nat,x=j∧j<n∧Rch (vAdj fs) v j:=by
 unfold sideL;rw [mem_filtB]
 exact ⟨fun ⟨j,h1,h2,h3⟩=>⟨j,h1,h2,rchB_iff.1 h3⟩,fun ⟨j,h1,h2,h3⟩=>⟨j,h1,h2,rchB_iff.2 h3⟩⟩
theorem lead_eq {fs:List (Int × Int)} {a b:Nat} (ha:vLeadB fs a=true) (hb:vLeadB fs b=true) (h:Rch (vAdj fs) a b):a=b:=by
 rcases Nat.lt_trichotomy a b with h1|h1|h1
 ·exact absurd h (vLeadB_iff.1 hb a h1)
 ·exact h1
 ·exact absurd (h.symm vAdj_symm) (vLeadB_iff.1 ha b h1)
theorem lead_exists {fs:List (Int × Int)} (i:Nat):∃ j,j≤i∧vLeadB fs j=true∧Rch (vAdj fs) j i:=by
 induction i using Nat.strongRecOn with
 | _ i ih=>
  cases hl:vLeadB fs i with
  | true=>exact ⟨i,Nat.le_refl _,hl,.refl⟩
  | false=>
   have:∃ j,j<i∧Rch (vAdj fs) j i:=by
    apply Classical.byContradiction
    intro h
    have:vLeadB fs i=true:=vLeadB_iff.2 fun b hb hr=>h ⟨b,hb,hr⟩
    rw [hl] at this;cases this
   obtain ⟨j,h1,h2⟩:=this
   obtain ⟨j',g1,g2,g3⟩:=ih j h1
   exact ⟨j',by omega,g2,g3.trans h2⟩
theorem getD_set_ne {l:List Int} {i j:Nat} {x:Int} (h:i≠j):(l.set i x).getD j 0=l.getD j 0:=by simp [List.getD,List.getElem?_set,h]
theorem getD_set_self {l:List Int} {i:Nat} {x:Int} (h:i<l.length):(l.set i x).getD i 0=x:=by simp [List.getD,h]
end Go.Proofs
namespace Go.Proofs
open Go.Abs

def cmb (n:Nat):Nat→Nat→List (List Int)
 | 0,_=>[[]]
 | k+1,f=>((List.range n).filter fun i=>decide (f≤i)).flatMap fun i=>(cmb n k (i+1)).map ((i:Int)::·)
def cmbTo (n k f i:Nat):List (List Int):=((List.range i).filter fun i=>decide (f≤i)).flatMap fun i=>(cmb n k (i+1)).map ((i:Int)::·)
theorem cmb_zero (n f:Nat):cmb n 0 f=[[]]:=rfl
theorem cmb_succ (n k f:Nat):cmb n (k+1) f=cmbTo n k f n:=rfl
theorem cmbTo_succ {n k f i:Nat} (h:f≤i):cmbTo n k f (i+1)=cmbTo n k f i++(cmb n k (i+1)).map ((i:Int)::·):=by
 unfold cmbTo
 rw [List.range_succ,List.filter_append,List.flatMap_append]
 congr 1
 simp [h]
theorem cmbTo_start {n k f i:Nat} (h:i≤f):cmbTo n k f i=[]:=by
 unfold cmbTo
 have:(List.range i).filter (fun i=>decide (f≤i))=[]:=by
  rw [List.filter_eq_nil_iff]
  intro a ha
  rw [List.mem_range] at ha
  simp;omega
 rw [this];rfl
theorem cmb_none {n:Nat}:∀ {k f:Nat},n<f+k→0<k→cmb n k f=[]
 | 0,_,_,h=>absurd h (by omega)
 | k+1,f,h,_=>by
  rw [cmb_succ,cmbTo,List.flatMap_eq_nil_iff]
  intro i hi
  rw [List.mem_filter,List.mem_range] at hi
  have hfi:=of_decide_eq_true hi.2
  rw [cmb_none (k:=k) (f:=i+1) (by omega) (by omega)];rfl
theorem cmbTo_end {n k f i:Nat} (hi:i≤n) (hf:f≤i) (h:n<i+k+1):cmbTo n k f n=cmbTo n k f i:=by
 obtain ⟨d,rfl⟩:∃ d,n=i+d:=⟨n-i,by omega⟩
 have key:∀ e,e≤d→cmbTo (i+d) k f (i+e)=cmbTo (i+d) k f i:=by
  intro e
  induction e with
  | zero=>intro _;rfl
  | succ e ih=>
   intro he
   rw [← Nat.add_assoc,cmbTo_succ (by omega),ih (by omega),cmb_none (by omega) (by omega)];simp
 exact key d (Nat.le_refl _)
theorem isS_nil (n:Int):IsS [] n:=fun i hi=>absurd hi (by simp)
theorem isS_cons {x n:Int} {l:List Int} (h0:0≤x) (h1:x<n) (h:IsS l n) (hx:∀ y∈l,x<y):IsS (x::l) n:=by
 intro i hi
 cases i with
 | zero=>exact ⟨h0,by show x≤n-1;omega,fun h=>absurd h (by omega)⟩
 | succ i=>
  have hi':i<l.length:=by simpa using hi
  obtain ⟨a,b,c⟩:=h i hi'
  refine ⟨a,b,fun _=>?_⟩
  cases i with
  | zero=>
   show x<l.getD 0 0
   rw [getD_of hi'];exact hx _ (List.getElem_mem hi')
  | succ i=>exact c (by omega)
theorem mem_cmb {n:Nat}:∀ {k f:Nat} {l:List Int},l∈cmb n k f→l.length=k∧IsS l n∧∀ x∈l,(f:Int)≤x
 | 0,f,l,h=>by
  rw [cmb_zero,List.mem_singleton] at h;subst h
  exact ⟨rfl,isS_nil _,fun x hx=>by cases hx⟩
 | k+1,f,l,h=>by
  rw [cmb_succ,cmbTo,List.mem_flatMap] at h
  obtain ⟨i,hi,hl⟩:=h
  rw [List.mem_filter,List.mem_range] at hi
  have hfi:=of_decide_eq_true hi.2
  rw [List.mem_map] at hl
  obtain ⟨m,hm,rfl⟩:=hl
  obtain ⟨g1,g2,g3⟩:=mem_cmb hm
  refine ⟨by simp [g1],isS_cons (by omega) (by omega) g2 fun y hy=>by have:=g3 y hy;omega,fun x hx=>?_⟩
  rcases List.mem_cons.1 hx with rfl|hx
  ·omega
  ·have:=g3 x hx;omega
theorem IsS.bits {l:List Int} {n:Nat} (h:IsS l n) (hn:n≤64):bitsL (setN l)=l:=by
 rw [bitsL_filt hn fun j hj=>bitB_lt h hj]
 exact h.filt.symm
theorem flatMap_len {α β:Type} {f:α→List β} {c:Nat}:∀ (l:List α),(∀ x∈l,(f x).length≤c)→(l.flatMap f).length≤l.length*c
 | [],_=>by simp
 | x::l,h=>by
  rw [List.flatMap_cons,List.length_append,List.length_cons,Nat.add_mul,Nat.one_mul]
  have:=flatMap_len l fun y hy=>h y (by simp [hy])
  have:=h x (by simp)
  omega
def upTo {α:Type} (q:α→Bool):List α→List α
 | []=>[]
 | x::xs=>if q x then [x] else x::upTo q xs
theorem upTo_app {α:Type} {q:α→Bool}:∀ {a b:List α},a.any q=false→upTo q (a++b)=a++upTo q b
 | [],b,_=>rfl
 | x::a,b,h=>by
  rw [List.any_cons,Bool.or_eq_false_iff] at h
  rw [List.cons_append,upTo,h.1]
  simp [upTo_app h.2]
theorem upTo_stop {α:Type} {q:α→Bool}:∀ {a b:List α},a.any q=true→upTo q (a++b)=upTo q a
 | x::a,b,h=>by
  rw [List.cons_append,upTo,upTo]
  cases hx:q x with
  | true=>rfl
  | false=>
   rw [List.any_cons,hx,Bool.false_or] at h
   simp [upTo_stop h]
theorem upTo_all {α:Type} {q:α→Bool} {a:List α} (h:a.any q=false):upTo q a=a:=by
 have:=upTo_app (b:=[]) h
 simpa [upTo] using this
def anyD {α:Type} (q:List α→Bool):List α→List α→Bool
 | _,[]=>false
 | d,x::xs=>q (d++[x])||anyD q (d++[x]) xs
def upToD {α:Type} (q:List α→Bool):List α→List α→List α
 | _,[]=>[]
 | d,x::xs=>if q (d++[x]) then [x] else x::upToD q (d++[x]) xs
theorem anyD_app {α:Type} {q:List α→Bool}:∀ {d a b:List α},anyD q d (a++b)=(anyD q d a||anyD q (d++a) b)
 | d,[],b=>by simp [anyD]
 | d,x::a,b=>by
  rw [List.cons_append,anyD,anyD,anyD_app (d:=d++[x]),Bool.or_assoc];simp
theorem upToD_app {α:Type} {q:List α→Bool}:∀ {d a b:List α},anyD q d a=false→upToD q d (a++b)=a++upToD q (d++a) b
 | d,[],b,_=>by simp
 | d,x::a,b,h=>by
  rw [anyD,Bool.or_eq_false_iff] at h
  rw [List.cons_append,upToD,h.1,upToD_app h.2]
  simp
theorem upToD_stop {α:Type} {q:List α→Bool}:∀ {d a b:List α},anyD q d a=true→upToD q d (a++b)=upToD q d a
 | d,x::a,b,h=>by
  rw [List.cons_append,upToD,upToD]
  cases hx:q (d++[x]) with
  | true=>rfl
  | false=>
   rw [anyD,hx,Bool.false_or] at h
   simp [upToD_stop h]
theorem upToD_all {α:Type} {q:List α→Bool} {d a:List α} (h:anyD q d a=false):upToD q d a=a:=by
 have:=upToD_app (b:=[]) h
 simpa [upToD] using this
theorem anyD_none {α:Type}:∀ {d a:List α},anyD (fun _=>false) d a=false
 | d,[]=>rfl
 | d,x::a=>by rw [anyD,anyD_none];rfl
theorem setN_snoc (l:List Int) (i:Nat):setN (l++[(i:Int)])=setN l|||2^i:=by
 unfold setN;rw [List.foldl_append];rfl
end Go.Proofs
namespace Go.Proofs
open Go.Abs

noncomputable instance (a b:Int × Int):Decidable (share a b):=Classical.propDecidable _
noncomputable def clashB (es:List (Int × Int)) (c:List Int) (i:Nat) (x:Int):Bool:=@decide (∃ j,j<c.length∧c.getD j 0=x∧share (es.getD j (0,0)) (es.getD i (0,0))) (Classical.propDecidable _)
theorem clashB_iff {es:List (Int × Int)} {c:List Int} {i:Nat} {x:Int}:clashB es c i x=true↔∃ j,j<c.length∧c.getD j 0=x∧share (es.getD j (0,0)) (es.getD i (0,0)):=by unfold clashB;simp
noncomputable def spB (es:List (Int × Int)) (out:Nat→Bool):Nat→List Int→Bool
 | 0,_=>true
 | r+1,c=>if out c.length then spB es out r (c++[-1]) else (!clashB es c c.length 0&&spB es out r (c++[0]))||(!clashB es c c.length 1&&spB es out r (c++[1]))||(!clashB es c c.length 2&&spB es out r (c++[2]))
noncomputable def ptB (es:List (Int × Int)):List Int→List Int→Bool
 | [],_=>true
 | i::E,c=>(!clashB es c i.toNat 0&&ptB es E (c.set i.toNat 0))||(!clashB es c i.toNat 1&&ptB es E (c.set i.toNat 1))||(!clashB es c i.toNat 2&&ptB es E (c.set i.toNat 2))
def pad (c:List Int) (r:Nat):List Int:=c++List.replicate r (-1)
theorem pad_length (c:List Int) (r:Nat):(pad c r).length=c.length+r:=by simp [pad]
theorem pad_get {c:List Int} {r j:Nat}:(pad c r).getD j 0=if j<c.length then c.getD j 0 else if j<c.length+r then -1 else 0:=by
 unfold pad
 simp only [List.getD,List.getElem?_append,List.getElem?_replicate]
 by_cases h1:j<c.length
 ·rw [if_pos h1,if_pos h1]
 ·rw [if_neg h1,if_neg h1]
  by_cases h2:j<c.length+r
  ·rw [if_pos (by omega),if_pos h2];rfl
  ·rw [if_neg (by omega),if_neg h2];rfl
theorem pad_set {c:List Int} {r:Nat} (x:Int):(pad c (r+1)).set c.length x=pad (c++[x]) r:=by
 unfold pad
 rw [List.set_append_right _ _ (Nat.le_refl _),Nat.sub_self,List.replicate_succ,List.set_cons_zero,List.append_assoc];rfl
theorem pad_snoc {c:List Int} {r:Nat}:pad c (r+1)=pad (c++[-1]) r:=by
 unfold pad
 rw [List.replicate_succ,List.append_assoc];rfl
theorem clash_pad {es:List (Int × Int)} {c:List Int} {r i:Nat} {x:Int} (hx:0≤x):clashB es (pad c r) i x=clashB es c i x:=by
 rw [Bool.eq_iff_iff,clashB_iff,clashB_iff]
 constructor
 ·rintro ⟨j,h1,h2,h3⟩
  rw [pad_get] at h2
  by_cases h:j<c.length
  ·rw [if_pos h] at h2;exact ⟨j,h,h2,h3⟩
  ·rw [if_neg h] at h2
   rw [pad_length] at h1
   rw [if_pos h1] at h2;omega
 ·rintro ⟨j,h1,h2,h3⟩
  exact ⟨j,by rw [pad_length];omega,by rw [pad_get,if_pos h1];exact h2,h3⟩
def toCome (out:Nat→Bool) (e:Nat):Nat→List Int
 | 0=>[]
 | r+1=>if out e then toCome out (e+1) r else (e:Int)::toCome out (e+1) r
theorem sp_pt {es:List (Int × Int)} {out:Nat→Bool}:∀ (r:Nat) (c:List Int),spB es out r c=ptB es (toCome out c.length r) (pad c r)
 | 0,c=>rfl
 | r+1,c=>by
  rw [spB,toCome]
  by_cases h:out c.length=true
  ·rw [if_pos h,if_pos h,sp_pt r,pad_snoc,List.length_append];rfl
  ·rw [if_neg h,if_neg h,ptB]
   rw [Int.toNat_natCast,clash_pad (by decide),clash_pad (by decide),clash_pad (by decide),pad_set,pad_set,pad_set,sp_pt r,sp_pt r,sp_pt r]
   simp only [List.length_append,List.length_cons,List.length_nil]
theorem toCome_filt (out:Nat→Bool):∀ (r e:Nat),filtB (fun j=>!out j) (e+r)=filtB (fun j=>!out j) e++toCome out e r
 | 0,e=>by simp [toCome]
 | r+1,e=>by
  rw [show e+(r+1)=(e+1)+r by omega,toCome_filt out r (e+1),filtB_succ,toCome]
  cases h:out e <;> simp [h]
theorem toCome_zero (out:Nat→Bool) (m:Nat):toCome out 0 m=filtB (fun j=>!out j) m:=by
 have:=toCome_filt out m 0
 rw [Nat.zero_add] at this
 rw [this];rfl
noncomputable def wkQ (es:List (Int × Int)) (l:List Int):Bool:=spB es (bitB l) es.length []
theorem wkQ_pt {es:List (Int × Int)} {l:List Int}:wkQ es l=ptB es (filtB (fun j=>!bitB l j) es.length) (List.replicate es.length (-1)):=by
 unfold wkQ
 rw [sp_pt,List.length_nil,toCome_zero];rfl
theorem spB_out {es:List (Int × Int)} {out:Nat→Bool}:∀ (r:Nat) (c:List Int),(∀ j,c.length≤j→j<c.length+r→out j=true)→spB es out r c=true
 | 0,_,_=>rfl
 | r+1,c,h=>by
  rw [spB,if_pos (h _ (Nat.le_refl _) (by omega))]
  exact spB_out r _ fun j h1 h2=>h j (by simp at h1;omega) (by simp at h2;omega)
theorem cmb_full (m:Nat):∀ (k f:Nat),f+k=m→∃ l∈cmb m k f,∀ j,f≤j→j<m→(j:Int)∈l
 | 0,f,h=>⟨[],by simp [cmb_zero],fun j h1 h2=>by omega⟩
 | k+1,f,h=>by
  obtain ⟨l,h1,h2⟩:=cmb_full m k (f+1) (by omega)
  refine ⟨(f:Int)::l,?_,fun j h3 h4=>?_⟩
  ·rw [cmb_succ,cmbTo,List.mem_flatMap]
   exact ⟨f,by rw [List.mem_filter,List.mem_range];exact ⟨by omega,by simp⟩,List.mem_map.2 ⟨l,h1,rfl⟩⟩
  ·by_cases e:j=f
   ·subst e;simp
   ·exact List.mem_cons_of_mem _ (h2 j (by omega) h4)
theorem weak_some (es:List (Int × Int)):∃ l∈cmb es.length es.length 0,wkQ es l=true:=by
 obtain ⟨l,h1,h2⟩:=cmb_full es.length es.length 0 (by omega)
 refine ⟨l,h1,?_⟩
 unfold wkQ
 refine spB_out _ _ fun j _ h=>?_
 rw [bitB_mem (mem_cmb h1).2.1]
 exact h2 j (by omega) (by simpa using h)
noncomputable def weakF (es:List (Int × Int)):Nat→Nat→List Int
 | 0,_=>[]
 | f+1,k=>match (cmb es.length k 0).find? (wkQ es) with
  | some l=>l
  | none=>weakF es f (k+1)
end Go.Proofs
namespace Go.Proofs
open Go.Abs

variable {H G:AHeap} {v u f:Value} {l m c D:List Int} {es fs:List (Int × Int)} {K:Value→AHeap→Prop}

theorem nilK_mk {b o:Nat} {K:Value→Prop} (h:K (.pointer (some ⟨b,o,none⟩))):nilK (.pointer (some ⟨b,o,none⟩)) K:=h
theorem asTup_mk {xs:List Value} {K:List Value→Prop} (h:K xs):asTup (.tuple ⟨xs⟩) K:=h
structure Two (cb ub:Nat) (G G':AHeap):Prop where
 len:G.length≤G'.length
 old:∀ (b:Nat) (o:AObj),b≠cb→b≠ub→G[b]?=some (some o)→G'[b]?=some (some o)
theorem Two.le {cb ub:Nat} {G G':AHeap} (h:G.le G'):Two cb ub G G':=⟨h.1,fun b o _ _ ho=>h.2 b o ho⟩
theorem Two.trans {cb ub:Nat} {G G' G2:AHeap} (h:Two cb ub G G') (k:Two cb ub G' G2):Two cb ub G G2:=⟨Nat.le_trans h.len k.len,fun b o h1 h2 ho=>k.old b o h1 h2 (h.old b o h1 h2 ho)⟩
theorem Two.base {cb ub:Nat} {H0 G G':AHeap} (h:Two cb ub G G') (h0:H0.le G) (hc:H0.length≤cb) (hu:H0.length≤ub):H0.le G':=
 ⟨Nat.le_trans h0.1 h.len,fun b o ho=>by have:=lt_of_get ho;exact h.old b o (by omega) (by omega) (h0.2 b o ho)⟩
theorem Two.butC {cb ub:Nat} {G G':AHeap} (h:But cb G G'):Two cb ub G G':=⟨Nat.le_of_eq h.len.symm,fun b o h1 _ ho=>by rw [h.same b h1];exact ho⟩
theorem Two.butU {cb ub:Nat} {G G':AHeap} (h:But ub G G'):Two cb ub G G':=⟨Nat.le_of_eq h.len.symm,fun b o _ h1 ho=>by rw [h.same b h1];exact ho⟩
theorem Two.same {cb ub:Nat} {G G':AHeap} {tc tu:TypeId} {xs ys:List Value} (h:Two cb ub G G') (c1:Own G cb tc xs) (c2:Own G' cb tc xs) (u1:Own G ub tu ys) (u2:Own G' ub tu ys):G.le G':=by
 refine ⟨h.len,fun b o ho=>?_⟩
 by_cases e1:b=cb
 ·subst e1
  have:=c1.symm.trans ho
  rw [← Option.some.inj (Option.some.inj this)];exact c2
 ·by_cases e2:b=ub
  ·subst e2
   have:=u1.symm.trans ho
   rw [← Option.some.inj (Option.some.inj this)];exact u2
  ·exact h.old b o e1 e2 ho
theorem LUget2 {Z:List Nat} {i:Nat} (h:i<Z.length):(LU Z)[i]?=some (.int .u64 (Z.getD i 0:Nat)):=by simp [h]
def orAt (u:List Nat) (w x:Nat):List Nat:=u.set w (u.getD w 0|||2^x)
def offAtU (u:List Nat) (w x:Nat):List Nat:=u.set w (u.getD w 0&&&(2^64-(2^x+1)))
theorem off_or {s x:Nat} (hs:s<2^64) (hx:x<64) (hb:s.testBit x=false):(s|||2^x)&&&(2^64-(2^x+1))=s:=by
 have px:2^x<2^64:=Nat.pow_lt_pow_right (by decide) hx
 apply Nat.eq_of_testBit_eq
 intro j
 rw [Nat.testBit_and,Nat.testBit_or,Nat.testBit_two_pow_sub_succ px,Nat.testBit_two_pow]
 by_cases hj:j<64
 ·by_cases e:x=j
  ·subst e;simp [hb]
  ·simp [hj,e]
 ·rw [testBit_big hs (by omega)];simp [hj]
theorem getN_set_self {l:List Nat} {i x:Nat} (h:i<l.length):(l.set i x).getD i 0=x:=by simp [List.getD,h]
theorem getN_set_ne {l:List Nat} {i j x:Nat} (h:i≠j):(l.set i x).getD j 0=l.getD j 0:=by simp [List.getD,List.getElem?_set,h]
theorem set_getN {l:List Nat} {i:Nat} (h:i<l.length):l.set i (l.getD i 0)=l:=by rw [getD_of h];exact List.set_getElem_self h
theorem give_take {u:List Nat} {a b x:Nat} (ha:a<u.length) (hb:b<u.length) (hab:a≠b) (hx:x<64) (h1:u.getD a 0<2^64) (h2:u.getD b 0<2^64) (b1:(u.getD a 0).testBit x=false) (b2:(u.getD b 0).testBit x=false) :
 offAtU (offAtU (orAt (orAt u a x) b x) a x) b x=u:=by
 unfold offAtU orAt
 have e1:((u.set a (u.getD a 0|||2^x)).getD b 0)=u.getD b 0:=getN_set_ne hab
 rw [e1]
 have e2:(((u.set a (u.getD a 0|||2^x)).set b (u.getD b 0|||2^x)).getD a 0)=u.getD a 0|||2^x:=by
  rw [getN_set_ne (fun e=>hab e.symm),getN_set_self ha]
 rw [e2,off_or h1 hx b1]
 have e3:((((u.set a (u.getD a 0|||2^x)).set b (u.getD b 0|||2^x)).set a (u.getD a 0)).getD b 0)=u.getD b 0|||2^x:=by
  rw [getN_set_ne hab,getN_set_self (by simpa using hb)]
 rw [e3,off_or h2 hx b2]
 rw [List.set_comm _ _ hab,List.set_set,List.set_comm _ _ (fun e=>hab e.symm),List.set_set,set_getN ha,set_getN hb]
def UsedOk (es:List (Int × Int)) (n:Nat) (c:List Int) (u:List Nat):Prop:=u.length=n∧∀ w,w<n→u.getD w 0<2^64∧∀ k:Nat,(u.getD w 0).testBit k=true↔∃ j,j<c.length∧c.getD j 0=k∧on (es.getD j (0,0)) w=true
theorem UsedOk.give {n:Nat} {c:List Int} {u:List Nat} {a b i x:Nat} (h:UsedOk es n c u) (hi:i<c.length) (hc:c.getD i 0=-1) (he:es.getD i (0,0)=((a:Int),(b:Int))) (ha:a<n) (hb:b<n) (hab:a≠b) (hx:x<64):UsedOk es n (c.set i (x:Int)) (orAt (orAt u a x) b x):=by
 obtain ⟨h1,h2⟩:=h
 have px:2^x<2^64:=Nat.pow_lt_pow_right (by decide) hx
 have hon:∀ w:Nat,on (es.getD i (0,0)) w=true↔a=w∨b=w:=fun w=>by
  rw [he];unfold on;simp only [Bool.or_eq_true,beq_iff_eq];omega
 have hget:∀ w,w<n→(orAt (orAt u a x) b x).getD w 0=if on (es.getD i (0,0)) w=true then u.getD w 0|||2^x else u.getD w 0:=by
  intro w hw
  unfold orAt
  have e1:((u.set a (u.getD a 0|||2^x)).getD b 0)=u.getD b 0:=getN_set_ne hab
  rw [e1]
  by_cases e2:b=w
  ·subst e2
   rw [getN_set_self (by simp;omega),if_pos ((hon b).2 (.inr rfl))]
  ·rw [getN_set_ne e2]
   by_cases e3:a=w
   ·subst e3
    rw [getN_set_self (by omega),if_pos ((hon a).2 (.inl rfl))]
   ·rw [getN_set_ne e3,if_neg fun h=>((hon w).1 h).elim e3 e2]
 refine ⟨by simp [orAt,h1],fun w hw=>?_⟩
 rw [hget w hw]
 obtain ⟨g1,g2⟩:=h2 w hw
 refine ⟨by split;exact or_lt g1 px;exact g1,fun k=>?_⟩
 constructor
 ·intro hk
  by_cases ho:on (es.getD i (0,0)) w=true
  ·rw [if_pos ho,Nat.testBit_or,Bool.or_eq_true,Nat.testBit_two_pow,decide_eq_true_iff] at hk
   rcases hk with hk|hk
   ·obtain ⟨j,j1,j2,j3⟩:=(g2 k).1 hk
    have hne:i≠j:=fun e=>by subst e;omega
    exact ⟨j,by simpa using j1,by rw [getD_set_ne hne];exact j2,j3⟩
   ·exact ⟨i,by simpa using hi,by rw [getD_set_self hi];omega,ho⟩
  ·rw [if_neg ho] at hk
   obtain ⟨j,j1,j2,j3⟩:=(g2 k).1 hk
   have hne:i≠j:=fun e=>by subst e;omega
   exact ⟨j,by simpa using j1,by rw [getD_set_ne hne];exact j2,j3⟩
 ·rintro ⟨j,j1,j2,j3⟩
  by_cases e:i=j
  ·subst e
   rw [getD_set_self hi] at j2
   rw [if_pos j3,Nat.testBit_or,Bool.or_eq_true,Nat.testBit_two_pow,decide_eq_true_iff]
   right;omega
  ·rw [getD_set_ne e] at j2
   have:=(g2 k).2 ⟨j,by simpa using j1,j2,j3⟩
   split
   ·rw [Nat.testBit_or,this];rfl
   ·exact this
theorem used_clash {n:Nat} {c:List Int} {u:List Nat} {a b i x:Nat} (h:UsedOk es n c u) (he:es.getD i (0,0)=((a:Int),(b:Int))) (ha:a<n) (hb:b<n):(u.getD a 0|||u.getD b 0).testBit x=clashB es c i (x:Int):=by
 obtain ⟨_,h2⟩:=h
 rw [Bool.eq_iff_iff,clashB_iff,Nat.testBit_or,Bool.or_eq_true,(h2 a ha).2,(h2 b hb).2]
 have hon:∀ z:Int,on (es.getD i (0,0)) z=true↔(a:Int)=z∨(b:Int)=z:=fun z=>by
  rw [he];unfold on;simp only [Bool.or_eq_true,beq_iff_eq]
 constructor
 ·rintro (⟨j,j1,j2,j3⟩|⟨j,j1,j2,j3⟩)
  ·exact ⟨j,j1,j2,a,j3,(hon a).2 (.inl rfl)⟩
  ·exact ⟨j,j1,j2,b,j3,(hon b).2 (.inr rfl)⟩
 ·rintro ⟨j,j1,j2,z,z1,z2⟩
  rcases (hon z).1 z2 with rfl|rfl
  ·exact .inl ⟨j,j1,j2,z1⟩
  ·exact .inr ⟨j,j1,j2,z1⟩
section
variable {n:Int} {H0:AHeap} {pb cb ub:Nat} {tP:TypeId} {qE fV:Value} {u:List Nat}
theorem give_ok {i x:Nat} (hg:IsG n es) (he:Edges H0 v es) (h0:H0.le G) (hcb:H0.length≤cb) (hub:H0.length≤ub) (hne:cb≠ub) (hp1:pb≠cb) (hp2:pb≠ub) (oP:Own G pb tP [.int .i64 n,v,qE,.slice (some ⟨cb,0,none⟩) es.length (es.length+1),.slice (some ⟨ub,0,none⟩) n.toNat (n.toNat+1),fV])
 (oc:Own G cb 2 (LI c)) (ou:Own G ub 83 (LU u)) (hcl:c.length=es.length) (hul:u.length=n.toNat) (hu64:∀ w,w<n.toNat→u.getD w 0<2^64) (hi:i<es.length) (hx:x<64)
 (k:∀ G',Two cb ub G G'→Own G' cb 2 (LI (c.set i (x:Int)))→Own G' ub 83 (LU (orAt (orAt u (es.getD i (0,0)).1.toNat x) (es.getD i (0,0)).2.toNat x))→K (.tuple ⟨[]⟩) G') :
 AC Tryz.prog T0 178 [.pointer (some ⟨pb,0,none⟩),.int .i64 (i:Nat),.int .i64 (x:Nat)] G K:=by
 obtain ⟨d1,d2,d3,d4,d5⟩:=hg.ed.ends es[i] (List.getElem_mem hi)
 rw [← getD_of (d:=(0,0)) hi] at d1 d2 d3 d4 d5
 have px:2^x<2^64:=Nat.pow_lt_pow_right (by decide) hx
 apply F178.ac
 unfold F178.B7
 refine nilK_mk (asP_mk (ld1_own oP rfl (own_idx (by omega) (by omega) (stK_1 oc (by simp;omega) rfl fun G1 b1 oc1=>?_))))
 rw [Int.toNat_natCast,← List.map_set] at oc1
 have t1:Two cb ub G G1:=.butC b1
 have oP1:=b1.own oP hp1
 have ou1:=b1.own ou (fun e=>hne e.symm)
 unfold F178.B6
 obtain ⟨bb,oo,hk,c1,c2⟩:=(he.le (t1.base h0 hcb hub)).idx (show (0:Int)≤i by omega) (by omega)
 simp only [Int.toNat_natCast] at c1 c2
 refine nilK_mk (asP_mk (ld1_own oP1 rfl (hk _ (ldI_mk c1 (ldI_mk c2 ?_)))))
 unfold F178.L1
 refine ⟨fun x0 x2 x22a x22b x23 G'=>.pointer (some ⟨pb,0,none⟩)=x0∧((x:Nat):Int)=x2∧(es.getD i (0,0)).1=x22a∧(es.getD i (0,0)).2=x22b∧Two cb ub G G'∧Own G' pb tP [.int .i64 n,v,qE,.slice (some ⟨cb,0,none⟩) es.length (es.length+1),.slice (some ⟨ub,0,none⟩) n.toNat (n.toNat+1),fV]∧Own G' cb 2 (LI (c.set i (x:Int)))∧∃ (t:Nat) (u':List Nat),x23=t∧t≤2∧Own G' ub 83 (LU u')∧u'.length=n.toNat∧(∀ w,w<n.toNat→u'.getD w 0<2^64)∧u'=(if t=0 then u else if t=1 then orAt u (es.getD i (0,0)).1.toNat x else orAt (orAt u (es.getD i (0,0)).1.toNat x) (es.getD i (0,0)).2.toNat x),
  fun _ _ _ _ x23 _=>2-x23.toNat,⟨rfl,rfl,rfl,rfl,t1,oP1,oc1,0,u,rfl,by omega,ou1,hul,hu64,rfl⟩,?_⟩
 rintro x0 x2 x22a x22b x23 G2 ⟨rfl,rfl,rfl,rfl,t2,oP2,oc2,t,u',rfl,ht,ou2,hul',hu64',hue⟩
 unfold F178.B5
 refine pif_cases (fun hb=>?_) fun hb=>?_
 ·have ht2:t<2:=by have:=of_decide_eq_true hb;omega
  have hw:∃ w:Nat,([.int .i64 (es.getD i (0,0)).1,.int .i64 (es.getD i (0,0)).2]:List Value)[(t:Int).toNat*1]?=some (.int .i64 (w:Nat))∧w<n.toNat∧(t=0→w=(es.getD i (0,0)).1.toNat)∧(t=1→w=(es.getD i (0,0)).2.toNat):=by
   rcases (by omega:t=0∨t=1) with rfl|rfl
   ·exact ⟨(es.getD i (0,0)).1.toNat,by rw [Int.toNat_of_nonneg d1];rfl,by omega,fun _=>rfl,fun h=>by omega⟩
   ·exact ⟨(es.getD i (0,0)).2.toNat,by rw [Int.toNat_of_nonneg d3];rfl,by omega,fun h=>by omega,fun _=>rfl⟩
  obtain ⟨w,hat,hwn,w0,w1⟩:=hw
  have huw:=hu64' w hwn
  unfold F178.B4
  refine bndK_iff.2 ⟨by omega,by omega,?_⟩
  unfold atK
  rw [hat]
  refine asI_mk ?_
  unfold F178.B3
  refine nilK_mk (asP_mk (ld1_own oP2 rfl (own_idx (by omega) (by omega) (ldI_own ou2 (by rw [Int.toNat_natCast];exact LUget2 (by omega)) ⟨by omega,own_idx (by omega) (by omega) (stK_1 ou2 (by simp;omega) rfl fun G3 b3 o3=>?_)⟩))))
  rw [one_shl (by omega) (by omega),Int.toNat_natCast,Int.toNat_natCast,bits_or huw px,show (Value.int .u64 (((u'.getD w 0|||2^x:Nat)):Int))=(fun z:Nat=>Value.int .u64 (z:Int)) (u'.getD w 0|||2^x) from rfl,← List.map_set] at o3
  unfold F178.B2
  rw [wrap_id (by omega) (by omega)]
  refine ⟨⟨rfl,rfl,rfl,rfl,t2.trans (.butU b3),b3.own oP2 hp2,b3.own oc2 hne,t+1,_,by omega,by omega,o3,by simpa using hul',fun w' hw'=>?_,?_⟩,by simp;omega⟩
  ·by_cases e:w=w'
   ·subst e;rw [getN_set_self (by omega)];exact or_lt huw px
   ·rw [getN_set_ne e];exact hu64' w' hw'
  ·rcases (by omega:t=0∨t=1) with rfl|rfl
   ·rw [if_neg (by omega),if_pos rfl,hue,if_pos rfl,w0 rfl];rfl
   ·rw [if_neg (by omega),if_neg (by omega),hue,if_neg (by omega),if_pos rfl,w1 rfl];rfl
 ·have ht2:t=2:=by have:=of_decide_eq_false hb;omega
  subst ht2
  rw [if_neg (by omega),if_neg (by omega)] at hue
  rw [hue] at ou2
  exact k G2 t2 oc2 ou2
theorem take_ok {i x:Nat} (hg:IsG n es) (he:Edges H0 v es) (h0:H0.le G) (hcb:H0.length≤cb) (hub:H0.length≤ub) (hne:cb≠ub) (hp1:pb≠cb) (hp2:pb≠ub) (oP:Own G pb tP [.int .i64 n,v,qE,.slice (some ⟨cb,0,none⟩) es.length (es.length+1),.slice (some ⟨ub,0,none⟩) n.toNat (n.toNat+1),fV])
 (oc:Own G cb 2 (LI c)) (ou:Own G ub 83 (LU u)) (hcl:c.length=es.length) (hul:u.length=n.toNat) (hu64:∀ w,w<n.toNat→u.getD w 0<2^64) (hi:i<es.length) (hx:x<64) (hcx:c.getD i 0=(x:Int))
 (k:∀ G',Two cb ub G G'→Own G' cb 2 (LI (c.set i (-1)))→Own G' ub 83 (LU (offAtU (offAtU u (es.getD i (0,0)).1.toNat x) (es.getD i (0,0)).2.toNat x))→K (.tuple ⟨[]⟩) G') :
 AC Tryz.prog T0 208 [.pointer (some ⟨pb,0,none⟩),.int .i64 (i:Nat)] G K:=by
 obtain ⟨d1,d2,d3,d4,d5⟩:=hg.ed.ends es[i] (List.getElem_mem hi)
 rw [← getD_of (d:=(0,0)) hi] at d1 d2 d3 d4 d5
 have px:2^x<2^64:=Nat.pow_lt_pow_right (by decide) hx
 have oi:=own_ints (c:=es.length+1) oc
 rw [hcl] at oi
 apply F208.ac
 unfold F208.B7
 obtain ⟨bb,oo,hk,c1,c2⟩:=(he.le h0).idx (show (0:Int)≤i by omega) (by omega)
 simp only [Int.toNat_natCast] at c1 c2
 refine nilK_mk (asP_mk (ld1_own oP rfl (hk _ (ldI_mk c1 (ldI_mk c2 ?_)))))
 unfold F208.L2
 refine ⟨fun x0 x1 x13a x13b x14 G'=>.pointer (some ⟨pb,0,none⟩)=x0∧((i:Nat):Int)=x1∧(es.getD i (0,0)).1=x13a∧(es.getD i (0,0)).2=x13b∧Two cb ub G G'∧Own G' pb tP [.int .i64 n,v,qE,.slice (some ⟨cb,0,none⟩) es.length (es.length+1),.slice (some ⟨ub,0,none⟩) n.toNat (n.toNat+1),fV]∧Own G' cb 2 (LI c)∧∃ (t:Nat) (u':List Nat),x14=t∧t≤2∧Own G' ub 83 (LU u')∧u'.length=n.toNat∧(∀ w,w<n.toNat→u'.getD w 0<2^64)∧u'=(if t=0 then u else if t=1 then offAtU u (es.getD i (0,0)).1.toNat x else offAtU (offAtU u (es.getD i (0,0)).1.toNat x) (es.getD i (0,0)).2.toNat x),
  fun _ _ _ _ x14 _=>2-x14.toNat,⟨rfl,rfl,rfl,rfl,.le (AHeap.le_refl _),oP,oc,0,u,rfl,by omega,ou,hul,hu64,rfl⟩,?_⟩
 clear oi
 rintro x0 x1 x13a x13b x14 G2 ⟨rfl,rfl,rfl,rfl,t2,oP2,oc2,t,u',rfl,ht,ou2,hul',hu64',hue⟩
 have oi:=own_ints (c:=es.length+1) oc2
 rw [hcl] at oi
 unfold F208.B6
 refine pif_cases (fun hb=>?_) fun hb=>?_
 ·have ht2:t<2:=by have:=of_decide_eq_true hb;omega
  have hw:∃ w:Nat,([.int .i64 (es.getD i (0,0)).1,.int .i64 (es.getD i (0,0)).2]:List Value)[(t:Int).toNat*1]?=some (.int .i64 (w:Nat))∧w<n.toNat∧(t=0→w=(es.getD i (0,0)).1.toNat)∧(t=1→w=(es.getD i (0,0)).2.toNat):=by
   rcases (by omega:t=0∨t=1) with rfl|rfl
   ·exact ⟨(es.getD i (0,0)).1.toNat,by rw [Int.toNat_of_nonneg d1];rfl,by omega,fun _=>rfl,fun h=>by omega⟩
   ·exact ⟨(es.getD i (0,0)).2.toNat,by rw [Int.toNat_of_nonneg d3];rfl,by omega,fun h=>by omega,fun _=>rfl⟩
  obtain ⟨w,hat,hwn,w0,w1⟩:=hw
  have huw:=hu64' w hwn
  unfold F208.B5
  refine bndK_iff.2 ⟨by omega,by omega,?_⟩
  unfold atK
  rw [hat]
  refine asI_mk ?_
  unfold F208.B4
  refine nilK_mk (asP_mk (ld1_own oP2 rfl (own_idx (by omega) (by omega) (ldI_own ou2 (by rw [Int.toNat_natCast];exact LUget2 (by omega)) (nilK_mk (asP_mk (ld1_own oP2 rfl (oi.rd (by omega) (by omega) ?_))))))))
  rw [Int.toNat_natCast,hcx]
  refine ⟨by omega,own_idx (by omega) (by omega) (stK_1 ou2 (by simp;omega) rfl fun G3 b3 o3=>?_)⟩
  have band:IntKind.u64.wrap ((BitVec.ofInt 64 ((u'.getD w 0:Nat):Int)&&&~~~(BitVec.ofInt 64 ((2^x:Nat):Int))).toNat:Int)=((u'.getD w 0&&&(2^64-(2^x+1)):Nat):Int):=by
   have hs':u'.getD w 0&&&(2^64-(2^x+1))<2^64:=Nat.lt_of_le_of_lt Nat.and_le_left huw
   rw [bv_nat,bv_nat,BitVec.toNat_and,BitVec.toNat_not,BitVec.toNat_ofNat,BitVec.toNat_ofNat,Nat.mod_eq_of_lt huw,Nat.mod_eq_of_lt px,show 2^64-1-2^x=2^64-(2^x+1) by omega,u64_nat hs']
  rw [one_shl (by omega) (by omega),Int.toNat_natCast,Int.toNat_natCast,band,show (Value.int .u64 (((u'.getD w 0&&&(2^64-(2^x+1)):Nat)):Int))=(fun z:Nat=>Value.int .u64 (z:Int)) (u'.getD w 0&&&(2^64-(2^x+1))) from rfl,← List.map_set] at o3
  unfold F208.B3
  rw [wrap_id (by omega) (by omega)]
  refine ⟨⟨rfl,rfl,rfl,rfl,t2.trans (.butU b3),b3.own oP2 hp2,b3.own oc2 hne,t+1,_,by omega,by omega,o3,by simpa using hul',fun w' hw'=>?_,?_⟩,by simp;omega⟩
  ·by_cases e:w=w'
   ·subst e;rw [getN_set_self (by omega)];exact Nat.lt_of_le_of_lt Nat.and_le_left huw
   ·rw [getN_set_ne e];exact hu64' w' hw'
  ·rcases (by omega:t=0∨t=1) with rfl|rfl
   ·rw [if_neg (by omega),if_pos rfl,hue,if_pos rfl,w0 rfl];rfl
   ·rw [if_neg (by omega),if_neg (by omega),hue,if_neg (by omega),if_pos rfl,w1 rfl];rfl
 ·have ht2:t=2:=by have:=of_decide_eq_false hb;omega
  subst ht2
  rw [if_neg (by omega),if_neg (by omega)] at hue
  rw [hue] at ou2
  unfold F208.B1
  refine nilK_mk (asP_mk (ld1_own oP2 rfl (own_idx (by omega) (by omega) (stK_1 oc2 (by simp;omega) rfl fun G3 b3 o3=>?_))))
  rw [Int.toNat_natCast,← List.map_set] at o3
  exact k G3 (t2.trans (.butC b3)) o3 (b3.own ou2 (fun e=>hne e.symm))
end
end Go.Proofs
namespace Go.Proofs
open Go.Abs

variable {H G:AHeap} {v u f:Value} {l m c D:List Int} {es fs:List (Int × Int)} {K:Value→AHeap→Prop}

noncomputable def ptL (es:List (Int × Int)):List Int→List Int→List (List Int)
 | [],c=>[c]
 | i::E,c=>if c.getD i.toNat 0=-1 then (List.range 3).flatMap fun x:Nat=>if clashB es c i.toNat (x:Int) then [] else ptL es E (c.set i.toNat (x:Int)) else ptL es E c
noncomputable def ptTo (es:List (Int × Int)) (E:List Int) (i:Nat) (c:List Int) (t:Nat):List (List Int):=(List.range t).flatMap fun x:Nat=>if clashB es c i (x:Int) then [] else ptL es E (c.set i (x:Int))
theorem ptL_cons {i:Nat} {E c:List Int} (h:c.getD i 0=-1):ptL es ((i:Int)::E) c=ptTo es E i c 3:=by
 rw [ptL,Int.toNat_natCast,if_pos h];rfl
theorem ptL_skip {i:Nat} {E c:List Int} (h:c.getD i 0≠-1):ptL es ((i:Int)::E) c=ptL es E c:=by
 rw [ptL,Int.toNat_natCast,if_neg h]
theorem ptTo_succ {E:List Int} {i:Nat} {c:List Int} (t:Nat):ptTo es E i c (t+1)=ptTo es E i c t++if clashB es c i (t:Int) then [] else ptL es E (c.set i (t:Int)):=by
 unfold ptTo
 rw [List.range_succ,List.flatMap_append]
 simp
theorem ptTo_le {E:List Int} {i:Nat} {c:List Int} {t s:Nat} (h:t≤s):(ptTo es E i c t).length≤(ptTo es E i c s).length:=by
 obtain ⟨d,rfl⟩:∃ d,s=t+d:=⟨s-t,by omega⟩
 clear h
 induction d with
 | zero=>exact Nat.le_refl _
 | succ d ih=>
  rw [← Nat.add_assoc,ptTo_succ,List.length_append];omega
structure Fnd (X:Nat→Prop) (G G':AHeap):Prop where
 len:G.length≤G'.length
 old:∀ (b:Nat) (o:AObj),¬ X b→G[b]?=some (some o)→G'[b]?=some (some o)
theorem Fnd.refl {X:Nat→Prop}:Fnd X G G:=⟨Nat.le_refl _,fun _ _ _ h=>h⟩
theorem Fnd.le {X:Nat→Prop} {G':AHeap} (h:G.le G'):Fnd X G G':=⟨h.1,fun b o _ ho=>h.2 b o ho⟩
theorem Fnd.trans {X:Nat→Prop} {G' G2:AHeap} (h:Fnd X G G') (k:Fnd X G' G2):Fnd X G G2:=⟨Nat.le_trans h.len k.len,fun b o hb ho=>k.old b o hb (h.old b o hb ho)⟩
theorem Fnd.own {X:Nat→Prop} {G':AHeap} {b:Nat} {t:TypeId} {cs:List Value} (h:Fnd X G G') (o:Own G b t cs) (hb:¬ X b):Own G' b t cs:=h.old b _ hb o
theorem Fnd.base {X:Nat→Prop} {H0 G':AHeap} (h:Fnd X G G') (h0:H0.le G) (hX:∀ (b:Nat) (o:AObj),H0[b]?=some (some o)→¬ X b):H0.le G':=⟨Nat.le_trans h0.1 h.len,fun b o ho=>h.old b o (hX b o ho) (h0.2 b o ho)⟩
theorem Two.fnd {X:Nat→Prop} {cb ub:Nat} {G G4 G5 G6:AHeap} {tc tu:TypeId} {xs ys:List Value} (h1:Two cb ub G G4) (h2:Fnd X G4 G5) (h3:Two cb ub G5 G6) (c1:Own G cb tc xs) (c2:Own G6 cb tc xs) (u1:Own G ub tu ys) (u2:Own G6 ub tu ys):Fnd X G G6:=by
 refine ⟨Nat.le_trans h1.len (Nat.le_trans h2.len h3.len),fun b o hX ho=>?_⟩
 by_cases e1:b=cb
 ·subst e1
  have:=c1.symm.trans ho
  rw [← Option.some.inj (Option.some.inj this)];exact c2
 ·by_cases e2:b=ub
  ·subst e2
   have:=u1.symm.trans ho
   rw [← Option.some.inj (Option.some.inj this)];exact u2
  ·exact h3.old b o e1 e2 (h2.old b o hX (h1.old b o e1 e2 ho))
section
variable {n:Int} {H0:AHeap} {pb cb ub:Nat} {tP:TypeId} {qE fV:Value} {X:Nat→Prop} {J:List (List Int)→AHeap→Prop} {q:List Int→Bool} {N Bd:Nat}
structure Caller (es:List (Int × Int)) (H0:AHeap) (pb cb ub:Nat) (fV:Value) (X:Nat→Prop) (Bd:Nat) (J:List (List Int)→AHeap→Prop) (q:List Int→Bool) (N:Nat):Prop where
 x0:∀ (b:Nat) (o:AObj),H0[b]?=some (some o)→¬ X b
 xp:¬ X pb
 xc:¬ X cb
 xu:¬ X ub
 xb:∀ b,X b→b<Bd
 st:∀ done (G G':AHeap),J done G→Two cb ub G G'→J done G'
 call:∀ done c' (G:AHeap),H0.le G→Own G cb 2 (LI c')→c'.length=es.length→J done G→done.length<N→∀ K:Value→AHeap→Prop,(∀ G',Fnd X G G'→J (done++[c']) G'→K (.bool (q c')) G')→callV Tryz.prog T0 fV [.slice (some ⟨cb,0,none⟩) es.length (es.length+1)] G K
theorem paintG_ok {E:List Int} (hC:Caller es H0 pb cb ub fV X Bd J q N) (hg:IsG n es) (he:Edges H0 v es) (hE:Ints H0 qE E) (hEl:E.length≤1000) (hEr:∀ x∈E,0≤x∧x<es.length) (hcb:H0.length≤cb) (hub:H0.length≤ub) (hne:cb≠ub) (hp1:pb≠cb) (hp2:pb≠ub) :
    ∀ (r k:Nat) (c:List Int) (u:List Nat) (done:List (List Int)) (G:AHeap) (K:Value→AHeap→Prop),E.length≤k+r→k≤E.length→H0.le G→Bd≤G.length→Own G pb tP [.int .i64 n,v,qE,.slice (some ⟨cb,0,none⟩) es.length (es.length+1),.slice (some ⟨ub,0,none⟩) n.toNat (n.toNat+1),fV]→
      Own G cb 2 (LI c)→Own G ub 83 (LU u)→c.length=es.length→UsedOk es n.toNat c u→J done G→done.length+(ptL es (E.drop k) c).length≤N→(∀ G',Fnd X G G'→J (done++upTo q (ptL es (E.drop k) c)) G'→K (.bool ((ptL es (E.drop k) c).any q)) G')→
      AC Tryz.prog T0 179 [.pointer (some ⟨pb,0,none⟩),.int .i64 (k:Nat)] G K:=by
  have n0:=hg.ed.lo;have n1:=hg.ed.hi
  have h30:es.length≤30:=by have:=hg.ed.len;omega
  intro r
  induction r with
  | zero|succ r ih=>
    intro k0 c u done G K hkr hk0 h0 hBd oP oc ou hcl hU hJ hN kk
    have hEG:=hE.le h0
    have oi:=own_ints (c:=es.length+1) oc
    rw [hcl] at oi
    apply F179.ac
    unfold F179.B20 F179.L17
    refine ⟨fun x0 x1 G'=>.pointer (some ⟨pb,0,none⟩)=x0∧G=G'∧∃ k:Nat,x1=k∧k0≤k∧k≤E.length∧ptL es (E.drop k0) c=ptL es (E.drop k) c,fun _ x1 _=>E.length-x1.toNat,⟨rfl,rfl,k0,rfl,Nat.le_refl _,hk0,rfl⟩,?_⟩
    rintro x0 x1 G' ⟨rfl,rfl,k,rfl,hkk,hkE,hsame⟩
    rw [hsame] at hN kk
    have leaf:k=E.length→F179.B15 K (.pointer (some ⟨pb,0,none⟩)) G:=fun hk=>by
      unfold F179.B15
      rw [hk,List.drop_length] at hN kk
      have hN:done.length+1≤N:=hN
      refine nilK_mk (asP_mk (ld1_own oP rfl (nilK_mk (asP_mk (ld1_own oP rfl (hC.call done c G h0 oc hcl hJ (by omega) _ fun G' hG' hJ'=>asB_mk ?_))))))
      have kk:=kk G' hG'
      have e:[c].any q=q c:=by simp
      rw [show ptL es [] c=[c] from rfl,e] at kk
      refine kk ?_
      have e2:upTo q [c]=[c]:=by unfold upTo;cases q c <;> rfl
      rw [e2];exact hJ'
    unfold F179.B19
    refine nilK_mk (asP_mk (ld1_own oP rfl (hEG.len (pif_cases (fun hb=>?_) fun hb=>?_))))
    rotate_left
    · have hk:k=E.length:=by have:=of_decide_eq_false hb;omega
      unfold F179.B16
      exact nilK_mk (asP_mk (ld1_own oP rfl (hEG.len (pif_t (by rw [beq_iff_eq];omega) (leaf hk)))))
    have hk:k<E.length:=by have:=of_decide_eq_true hb;omega
    have hi:=hEr _ (List.getElem_mem hk)
    obtain ⟨i,hie⟩:∃ i:Nat,E[k]=(i:Int):=⟨(E[k]).toNat,by omega⟩
    have hget:E.getD k 0=(i:Int):=by rw [getD_of hk,hie]
    rw [hie] at hi
    have hil:i<es.length:=by omega
    have hdrop:E.drop k=(i:Int)::E.drop (k+1):=by rw [List.drop_eq_getElem_cons hk,hie]
    refine nilK_mk (asP_mk (ld1_own oP rfl (nilK_mk (asP_mk (ld1_own oP rfl (hEG.rd (by omega) (by omega) ?_))))))
    rw [Int.toNat_natCast,hget]
    refine oi.rd (by omega) (by omega) ?_
    rw [Int.toNat_natCast]
    refine pif_cases (fun hb=>?_) fun hb=>?_
    · have hci:=bne_iff_ne.1 hb
      unfold F179.B18
      rw [wrap_id (by omega) (by omega)]
      refine ⟨⟨rfl,rfl,k+1,by omega,by omega,by omega,?_⟩,by simp;omega⟩
      rw [hsame,hdrop,ptL_skip hci]
    have hci:c.getD i 0=-1:=bne_eq_false_iff_eq.1 hb
    unfold F179.B16
    refine nilK_mk (asP_mk (ld1_own oP rfl (hEG.len (pif_f (by rw [beq_eq_false_iff_ne];omega) ?_))))
    unfold F179.B14
    refine nilK_mk (asP_mk (ld1_own oP rfl (hEG.rd (by omega) (by omega) ?_)))
    rw [Int.toNat_natCast,hget]
    obtain ⟨d1,d2,d3,d4,d5⟩:=hg.ed.ends es[i] (List.getElem_mem hil)
    rw [← getD_of (d:=(0,0)) hil] at d1 d2 d3 d4 d5
    obtain ⟨a,ha⟩:∃ a:Nat,(es.getD i (0,0)).1=a:=⟨(es.getD i (0,0)).1.toNat,by omega⟩
    obtain ⟨b,hb'⟩:∃ b:Nat,(es.getD i (0,0)).2=b:=⟨(es.getD i (0,0)).2.toNat,by omega⟩
    have hab:es.getD i (0,0)=((a:Int),(b:Int)):=by rw [← ha,← hb']
    rw [hdrop,ptL_cons hci] at hN kk
    unfold F179.B13
    obtain ⟨bb,oo,hk',c1,c2⟩:=(he.le h0).idx (show (0:Int)≤i by omega) (by omega)
    simp only [Int.toNat_natCast] at c1 c2
    refine nilK_mk (asP_mk (ld1_own oP rfl (hk' _ (ldI_mk c1 (ldI_mk c2 (newK_f rfl fun G1 l1 n1' o1=>stK_f o1 (by simp) (by simp [Value.oneCell']) rfl fun G2 b2 o2=>?_))))))
    have l2:G.le G2:=b2.le l1 (Nat.le_refl _)
    have o2:Own G2 G.length 28 [.int .i64 (a:Nat),.int .i64 (b:Nat)]:=by rw [ha,hb'] at o2;simpa using o2
    have hul:=hU.1
    have hcl0:=oc.lt
    have hul0:=ou.lt
    have xG:¬ X G.length:=fun h=>by have:=hC.xb _ h;omega
    unfold F179.B12 F179.L2
    refine ⟨fun x0 x1 x5 x6 x65 G'=>.pointer (some ⟨pb,0,none⟩)=x0∧((k:Nat):Int)=x1∧((i:Nat):Int)=x5∧G.length=x6∧Fnd X G2 G'∧∃ t:Nat,x65=t∧t≤3∧J (done++ptTo es (E.drop (k+1)) i c t) G'∧(ptTo es (E.drop (k+1)) i c t).any q=false,fun _ _ _ _ x65 _=>3-x65.toNat,
      ⟨rfl,rfl,rfl,rfl,.refl,0,rfl,by omega,by rw [show ptTo es (E.drop (k+1)) i c 0=[] from rfl,List.append_nil];exact hC.st _ _ _ hJ (.le l2),rfl⟩,?_⟩
    rintro x0 x1 x5 x6 x65 G3 ⟨rfl,rfl,rfl,rfl,hG3,t,rfl,ht,hJ3,hno⟩
    have fG3:=(Fnd.le (X:=X) l2).trans hG3
    have h03:=fG3.base h0 hC.x0
    have oP3:=fG3.own oP hC.xp
    have oc3:=fG3.own oc hC.xc
    have ou3:=fG3.own ou hC.xu
    have o23:=hG3.own o2 xG
    have hG3l:=fG3.len
    unfold F179.B11
    refine pif_cases (fun hb=>?_) fun hb=>?_
    · have ht3:t<3:=by have:=of_decide_eq_true hb;omega
      have hua:=(hU.2 a (by omega)).1
      have hub':=(hU.2 b (by omega)).1
      have hsucc:=ptTo_succ (es:=es) (E:=E.drop (k+1)) (i:=i) (c:=c) t
      have hle3:=ptTo_le (es:=es) (E:=E.drop (k+1)) (i:=i) (c:=c) (t:=t+1) (s:=3) (by omega)
      unfold F179.B10 F179.B9
      refine nilK_mk (asP_mk (ld1_own oP3 rfl (ldI_own o23 rfl (own_idx (by omega) (by omega) (ldI_own ou3 (by rw [Int.toNat_natCast];exact LUget2 (by omega)) (nilK_mk (asP_mk (ld1_own oP3 rfl (ldI_own o23 rfl (own_idx (by omega) (by omega) (ldI_own ou3 (by rw [Int.toNat_natCast];exact LUget2 (by omega)) ?_)))))))))))
      rw [bits_or hua hub']
      refine has_ok (or_lt hua hub') (by omega) (asB_mk ?_)
      rw [Int.toNat_natCast,used_clash hU hab (by omega) (by omega)]
      refine pif_cases (fun hb=>?_) fun hb=>?_
      · unfold F179.B3
        rw [wrap_id (by omega) (by omega)]
        rw [hb,if_pos rfl,List.append_nil] at hsucc
        exact ⟨⟨rfl,rfl,rfl,rfl,hG3,t+1,by omega,by omega,by rw [hsucc];exact hJ3,by rw [hsucc];exact hno⟩,by simp;omega⟩
      · have hcl2:=hb
        rw [hb] at hsucc
        simp only [Bool.false_eq_true,if_false] at hsucc
        unfold F179.B8
        refine give_ok (x:=t) hg he h03 hcb hub hne hp1 hp2 oP3 oc3 ou3 hcl hul (fun w hw=>(hU.2 w hw).1) hil (by omega) fun G4 t4 oc4 ou4=>asTup_mk ?_
        rw [ha,hb',Int.toNat_natCast,Int.toNat_natCast] at ou4
        have hU4:=hU.give (x:=t) (by omega) hci hab (by omega) (by omega) (by omega) (by omega)
        have h04:=t4.base h03 hcb hub
        have oP4:Own G4 pb tP _:=t4.old pb _ hp1 hp2 oP3
        have hJ4:=hC.st _ _ _ hJ3 t4
        have hl4:=t4.len
        unfold F179.B7
        rw [wrap_id (by omega) (by omega),show ((k:Nat):Int)+1=((k+1:Nat):Int) by omega]
        first
        | (exfalso;omega)
        | (refine ih (k + 1) (c.set i (t : Int)) _ _ G4 _ (by omega) (by omega) h04 (by omega) oP4 oc4 ou4 (by simpa using hcl) hU4 hJ4 (by
             rw [hsucc,List.length_append] at hle3
             rw [List.length_append];omega) fun G5 f5 hJ5=>asB_mk ?_
           have oP5:=f5.own oP4 hC.xp
           have oc5:=f5.own oc4 hC.xc
           have ou5:=f5.own ou4 hC.xu
           have h05:=f5.base h04 hC.x0
           unfold F179.B6
           refine take_ok (x:=t) hg he h05 hcb hub hne hp1 hp2 oP5 oc5 ou5 (by simpa using hcl) hU4.1 (fun w hw=>(hU4.2 w hw).1) hil (by omega) (getD_set_self (by omega)) fun G6 t6 oc6 ou6=>asTup_mk ?_
           have hback:(c.set i (t:Int)).set i (-1)=c:=by
             rw [List.set_set,← hci,getD_of (by omega:i<c.length)];exact List.set_getElem_self _
           rw [hback] at oc6
           have hbit:=used_clash (x:=t) hU hab (by omega) (by omega)
           rw [hcl2,Nat.testBit_or,Bool.or_eq_false_iff] at hbit
           rw [ha,hb',Int.toNat_natCast,Int.toNat_natCast,give_take (by omega) (by omega) (by omega) (by omega) hua hub' hbit.1 hbit.2] at ou6
           have f36:Fnd X G3 G6:=Two.fnd t4 f5 t6 oc3 oc6 ou3 ou6
           have hJ6:=hC.st _ _ _ hJ5 t6
           rw [List.append_assoc] at hJ6
           unfold F179.B5
           refine pif_cases (fun hb=>?_) fun hb=>?_
           · unfold F179.B4
             have kk:=kk G6 (fG3.trans f36)
             have e3:ptTo es (E.drop (k+1)) i c 3=ptTo es (E.drop (k+1)) i c t++(ptL es (E.drop (k+1)) (c.set i (t:Int))++(ptTo es (E.drop (k+1)) i c 3).drop (ptTo es (E.drop (k+1)) i c (t+1)).length):=by
               rw [← List.append_assoc,← hsucc]
               have pre:∀ s,t+1≤s→∃ R,ptTo es (E.drop (k+1)) i c s=ptTo es (E.drop (k+1)) i c (t+1)++R:=by
                 intro s hs
                 induction s with
                 | zero=>omega
                 | succ s ihs=>
                   by_cases es':s=t
                   · subst es';exact ⟨[],by simp⟩
                   · obtain ⟨R,hR⟩:=ihs (by omega)
                     exact ⟨_,by rw [ptTo_succ,hR,List.append_assoc]⟩
               obtain ⟨R,hR⟩:=pre 3 (by omega)
               rw [hR,List.drop_left]
             have hany:(ptTo es (E.drop (k+1)) i c 3).any q=true:=by
               rw [e3,List.any_append,List.any_append,hb];simp
             have hup:upTo q (ptTo es (E.drop (k+1)) i c 3)=ptTo es (E.drop (k+1)) i c t++upTo q (ptL es (E.drop (k+1)) (c.set i (t:Int))):=by
               rw [e3,upTo_app hno,upTo_stop hb]
             rw [hany,hup] at kk
             exact kk hJ6
           · rw [upTo_all hb] at hJ6
             unfold F179.B3
             rw [wrap_id (by omega) (by omega)]
             exact ⟨⟨rfl,rfl,rfl,rfl,hG3.trans f36,t+1,by omega,by omega,by rw [hsucc];exact hJ6,by rw [hsucc,List.any_append,hno,hb];rfl⟩,by simp;omega⟩)
    · have ht3:t=3:=by have:=of_decide_eq_false hb;omega
      subst ht3
      unfold F179.B1
      have kk:=kk G3 fG3
      rw [hno,upTo_all hno] at kk
      exact kk hJ3
end
end Go.Proofs
namespace Go.Proofs
open Go.Abs

variable {H:AHeap} {v u f:Value} {l m c:List Int} {es fs:List (Int × Int)} {K:Value→AHeap→Prop}

theorem ints_cells (h:Ints H v l):cellsAt H v 1 l.length (LI l):=by
 refine ⟨by simp,?_⟩
 rcases h with ⟨rfl,rfl⟩|⟨a,c,rfl,h⟩
 ·exact ⟨none,0,rfl,.inl rfl⟩
 ·refine ⟨some a,c,rfl,?_⟩
  rcases h with rfl|⟨h1,h2⟩
  ·exact .inl rfl
  ·refine .inr ⟨a.block,a.off,?_,fun i u hu=>?_⟩
   ·cases a;cases h1;rfl
   ·rw [List.getElem?_map] at hu
    cases hx:l[i]? with
    | none=>rw [hx] at hu;cases hu
    | some x=>rw [hx] at hu;cases hu;exact h2 i x hx
theorem own_app (h:Ints H v l) (hl:l.length≤4294967296) (k:∀ v' G,H.le G→Fresh H.length G v' 2 1 (LI l)→K v' G) :
 newK H [] 2 (fun b1 H2=>apK T0 2 H2 (.slice (some ⟨b1,0,none⟩) 0 (0+1)) v K):=by
 refine newK_f rfl fun H2 l2 n2 o2=>?_
 have f2:Fresh H.length H2 (.slice (some ⟨H.length,0,none⟩) 0 (0+1)) 2 1 []:=.inr ⟨_,0,Nat.le_refl _,rfl,o2,rfl⟩
 refine f2.sl.app E_int (by decide) l2.1 (ints_cells (h.le l2)) (by simpa using hl) (fun h0=>?_) fun v' G k3 _ _ f3=>?_
 ·exact k _ _ l2 (by rw [h0];exact f2)
 ·exact k _ _ (k3.le l2 (Nat.le_refl _)) f3
theorem l01Own_ok (h:Ints H v l) (hl:l.length≤4294967296) (k:∀ v' G,H.le G→Fresh H.length G v' 2 1 (LI l)→K v' G):AC Tryz.prog T0 89 [v] H K:=by
 apply F89.ac
 unfold F89.B2 F89.B1
 exact own_app h hl k
end Go.Proofs
namespace Go.Proofs
open Go.Abs

variable {H:AHeap} {v u f:Value} {l m c:List Int} {es fs:List (Int × Int)} {K:Value→AHeap→Prop}

theorem isEdge_ok {n x:Int} (h:Edges H v es) (hl:es.length≤1048576) (k:∀ G,H.le G→K (.bool (decide (0≤x∧x≤(es.length:Int)-1))) G):AC Tryz.prog T0 56 [.agg ⟨[.int .i64 n,v]⟩,.int .i64 x] H K:=by
 apply F56.ac
 unfold F56.B2
 refine newK_f (all_iv (edges_one' h)) fun H1 l1 n1 o1=>?_
 unfold F56.B1
 refine ld1_own o1 rfl (lengthE_ok (h.le l1) (asI_mk ?_))
 rw [wrap_id (by omega) (by omega)]
 exact within_ok (asB_mk (k _ l1))
theorem IsC.get {es:List (Int × Int)} {c:List Int} (h:IsC es c) (i:Nat):0≤c.getD i 0∧c.getD i 0≤2:=by
 by_cases hi:i<c.length
 ·rw [getD_of hi];exact h.rng _ (List.getElem_mem hi)
 ·simp [List.getD,List.getElem?_eq_none (show c.length≤i by omega)]
end Go.Proofs
namespace Go.Proofs
open Go.Abs

variable {H G:AHeap} {v u f:Value} {l m c:List Int} {es fs:List (Int × Int)} {K:Value→AHeap→Prop} {A:Nat→Prop} {B:Nat} {ls:List (List Int)}

noncomputable def tiRow:TI:=(T0 42).getD ⟨.bool,0,0,undef⟩
theorem E_row:Elem T0 42 1:=⟨tiRow,by kernel_rfl,by kernel_rfl,of_decide_eq_true (by kernel_rfl),by kernel_rfl⟩
noncomputable def tiEdge:TI:=(T0 28).getD ⟨.bool,0,0,undef⟩
theorem E_edge:Elem T0 28 2:=⟨tiEdge,by kernel_rfl,by kernel_rfl,of_decide_eq_true (by kernel_rfl),by kernel_rfl⟩
theorem Sl_rd1 {m0:Nat} {t:TypeId} {cs:List Value} {i:Int} {K:Nat→Nat→Prop} (h:Sl m0 H v t 1 cs) (h0:0≤i) (h1:i<cs.length) (k:∀ b o,H.cell b o=cs[i.toNat]?→K b o):idxK v i 1 K:=by
 rcases h with ⟨rfl,_⟩|⟨b,n,pre,post,_,rfl,ho,hn⟩
 ·simp at h1;omega
 ·refine ⟨h0,by omega,k _ _ ?_⟩
  rw [Nat.mul_one,Own.cell ho,List.append_assoc,List.getElem?_append_right (Nat.le_add_right _ _),Nat.add_sub_cancel_left,List.getElem?_append_left (by omega)]
theorem Sl_rd {m0:Nat} {t:TypeId} {cs:List Value} {i:Int} {x:Value} {K:Value→Prop} (h:Sl m0 H v t 1 cs) (h0:0≤i) (h1:i<cs.length) (hx:cs[i.toNat]?=some x) (k:K x):idxK v i 1 (fun b o=>ld1 H b o K):=
 Sl_rd1 h h0 h1 fun b o hc=>ld1_mk (hc.trans hx) k
theorem Sl_rdI {m0:Nat} {t:TypeId} {cs:List Value} {i:Int} {kk:IntKind} {x:Int} {K:Int→Prop} (h:Sl m0 H v t 1 cs) (h0:0≤i) (h1:i<cs.length) (hx:cs[i.toNat]?=some (.int kk x)) (k:K x):idxK v i 1 (fun b o=>ldI kk H b o K):=
 Sl_rd1 h h0 h1 fun b o hc=>ldI_mk (hc.trans hx) k
def RowsF (A:Nat→Prop) (B:Nat) (H:AHeap) (v:Value) (ls:List (List Int)):Prop:=
 ∃ vs:List Value,Fresh 0 H v 42 1 vs∧vs.length=ls.length∧(∀ b,bk v=some b→A b∧b<B)∧
  ∀ i,i<ls.length→∃ w,vs[i]?=some w∧Fresh 0 H w 2 1 (LI (ls.getD i []))∧∀ b,bk w=some b→A b∧b<B∧bk v≠some b∧∀ j w',j<i→vs[j]?=some w'→bk w'≠some b
theorem RowsF.nil:RowsF A B H (.slice none 0 0) []:=⟨[],.inl ⟨rfl,.inl rfl⟩,rfl,(fun b h=>by cases h),fun i h=>absurd h (by simp)⟩
theorem RowsF.nil1 {b:Nat} (ho:Own H b 42 []) (ha:A b) (hb:b<B):RowsF A B H (.slice (some ⟨b,0,none⟩) 0 (0+1)) []:=
 ⟨[],.inr ⟨b,0,Nat.zero_le _,rfl,ho,rfl⟩,rfl,(fun b' h=>by cases h;exact ⟨ha,hb⟩),fun i h=>absurd h (by simp)⟩
theorem RowsF.mono {A':Nat→Prop} {B':Nat} (h:RowsF A B H v ls) (ha:∀ b,A b→A' b) (hb:B≤B'):RowsF A' B' H v ls:=by
 obtain ⟨vs,h1,h2,h3,h4⟩:=h
 refine ⟨vs,h1,h2,fun b hbk=>⟨ha b (h3 b hbk).1,by have:=(h3 b hbk).2;omega⟩,fun i hi=>?_⟩
 obtain ⟨w,g1,g2,g3⟩:=h4 i hi
 exact ⟨w,g1,g2,fun b hbk=>⟨ha b (g3 b hbk).1,by have:=(g3 b hbk).2.1;omega,(g3 b hbk).2.2⟩⟩
theorem fresh_oth {m0:Nat} {t:TypeId} {z:Nat} {cs:List Value} (h:Fresh m0 H v t z cs) (k:∀ b o,bk v=some b→H[b]?=some (some o)→G[b]?=some (some o)):Fresh m0 G v t z cs:=by
 rcases h with h|⟨b,n,h1,rfl,h3,h4⟩
 ·exact .inl h
 ·exact .inr ⟨b,n,h1,rfl,k b _ rfl h3,h4⟩
theorem RowsF.move (h:RowsF A B H v ls) (k:∀ b o,A b→b<B→H[b]?=some (some o)→G[b]?=some (some o)):RowsF A B G v ls:=by
 obtain ⟨vs,h1,h2,h3,h4⟩:=h
 refine ⟨vs,fresh_oth h1 fun b o hb ho=>k b o (h3 b hb).1 (h3 b hb).2 ho,h2,h3,fun i hi=>?_⟩
 obtain ⟨w,g1,g2,g3⟩:=h4 i hi
 exact ⟨w,g1,fresh_oth g2 fun b o hb ho=>k b o (g3 b hb).1 (g3 b hb).2.1 ho,g3⟩
theorem RowsF.le (h:RowsF A B H v ls) (hl:H.le G):RowsF A B G v ls:=h.move fun b o _ _ ho=>hl.2 b o ho
theorem RowsF.keep (h:RowsF A B H v ls) (hk:Keep B H G):RowsF A B G v ls:=h.move fun b o _ hb ho=>hk.old b o hb ho
theorem RowsF.but {b:Nat} (h:RowsF A B H v ls) (hb:But b H G) (hn:¬ A b):RowsF A B G v ls:=
 h.move fun c o ha _ ho=>by rw [hb.same c (fun e=>hn (e▸ha))];exact ho
theorem RowsF.len (h:RowsF A B H v ls) {K:Nat→Prop} (k:K ls.length):lenK v K:=by
 obtain ⟨vs,h1,h2,_⟩:=h
 exact h1.sl.len (by decide) (n:=ls.length) (by omega) k
theorem RowsF.push {w:Value} (h:RowsF A B H v ls) (hB:B≤H.length) (hA:∀ b,B≤b→A b) (hw:Fresh B H w 2 1 (LI l)) (hs:ls.length<4294967296)
 (k:∀ v' G,Oth v H G→(∀ b,bk v'=some b→H.length≤b)→H.length≤G.length→RowsF A G.length G v' (ls++[l])→K v' G) :
 pif w.oneCell' (newK H [w] 42 (fun b1 H2=>apK T0 42 H2 v (.slice (some ⟨b1,0,none⟩) 1 (1+1)) K)) False:=by
 have hw1:w.oneCell'=true:=ints_one hw.ints
 refine pif_t hw1 ?_
 obtain ⟨vs,h1,h2,h3,h4⟩:=h
 refine h1.sl.pushN E_row (by decide) (Nat.zero_le _) (n:=1) (ys:=[w]) rfl (by simpa using hw1) (by simp;omega) (by simp) fun v' G k1 ot nb f'=>k v' G ot nb k1.len ?_
 have hbw:∀ b,bk w=some b→B≤b∧b<H.length:=fun b hb=>hw.bk_lt hb
 refine ⟨vs++[w],f',by simp [h2],fun b hb=>⟨hA b (by have:=nb b hb;omega),(f'.bk_lt hb).2⟩,fun i hi=>?_⟩
 by_cases e:i<ls.length
 ·obtain ⟨w',g1,g2,g3⟩:=h4 i e
  refine ⟨w',by rw [List.getElem?_append_left (by omega)];exact g1,?_,fun b hb=>?_⟩
  ·rw [show (ls++[l]).getD i []=ls.getD i [] by simp [List.getD,List.getElem?_append_left e]]
   exact fresh_oth g2 fun b o hb ho=>ot b o (g3 b hb).2.2.1 ho
  ·obtain ⟨q1,q2,q3,q4⟩:=g3 b hb
   refine ⟨q1,by have:=k1.len;omega,fun hv=>by have:=nb b hv;omega,fun j w2 hj hw2=>q4 j w2 hj ?_⟩
   rwa [List.getElem?_append_left (by omega)] at hw2
 ·have:i=ls.length:=by simp at hi;omega
  subst this
  refine ⟨w,by rw [← h2];simp,?_,fun b hb=>?_⟩
  ·rw [show (ls++[l]).getD ls.length []=l by simp [List.getD]]
   exact fresh_oth (hw.less (Nat.zero_le _)) fun b o hb ho=>ot b o (fun hv=>by have:=(h3 b hv).2;have:=(hbw b hb).1;omega) ho
  ·have hb':=hbw b hb
   refine ⟨hA b hb'.1,by have:=k1.len;omega,fun hv=>by have:=nb b hv;omega,fun j w2 hj hw2 hw3=>?_⟩
   rw [List.getElem?_append_left (by omega)] at hw2
   obtain ⟨w4,g1,_,g3⟩:=h4 j hj
   rw [hw2] at g1;cases g1
   have:=(g3 b hw3).2.1;omega
theorem RowsF.row (h:RowsF A B H v ls) {i:Nat} (hi:i<ls.length) {K:Value→Prop} (k:∀ w,Fresh 0 H w 2 1 (LI (ls.getD i []))→K w):idxK v i 1 (fun b o=>ld1 H b o K):=by
 obtain ⟨vs,h1,h2,h3,h4⟩:=h
 obtain ⟨w,g1,g2,g3⟩:=h4 i hi
 exact Sl_rd h1.sl (by omega) (by omega) (by rw [Int.toNat_natCast];exact g1) (k w g2)
end Go.Proofs
namespace Go.Proofs
open Go.Abs

variable {H G:AHeap} {v u f:Value} {l m c:List Int} {es fs:List (Int × Int)} {K:Value→AHeap→Prop} {A A':Nat→Prop} {B B':Nat} {ls ms:List (List Int)}

end Go.Proofs
namespace Go.Proofs
open Go.Abs

variable {H:AHeap} {v:Value}

end Go.Proofs
namespace Go.Proofs
open Go.Abs

variable {H G:AHeap} {v u f:Value} {l m c:List Int} {es fs:List (Int × Int)} {K:Value→AHeap→Prop} {A A':Nat→Prop} {B B':Nat} {ls ms:List (List Int)}

end Go.Proofs
namespace Go.Proofs
open Go.Abs

variable {H G:AHeap} {v u f w:Value} {l m c:List Int} {es fs:List (Int × Int)} {K:Value→AHeap→Prop} {ls L:List (List Int)} {bm:Nat}

end Go.Proofs
namespace Go.Proofs
open Go.Abs

variable {H G:AHeap} {v u f w:Value} {l m c:List Int} {es fs:List (Int × Int)} {K:Value→AHeap→Prop} {ls L:List (List Int)} {bm:Nat}

end Go.Proofs
namespace Go.Proofs
open Go.Abs

def fv (s:Nat):Nat→Nat
 | 0=>0
 | n+1=>if fv s n<n then fv s n else if s.testBit n then n+1 else n
theorem fv_spec (s:Nat):∀ n,fv s n≤n∧(∀ j,j<fv s n→s.testBit j=true)∧(fv s n<n→s.testBit (fv s n)=false)
 | 0=>⟨Nat.le_refl _,fun j hj=>by simp [fv] at hj,fun h=>by simp [fv] at h⟩
 | n+1=>by
  obtain ⟨h1,h2,h3⟩:=fv_spec s n
  unfold fv
  by_cases h:fv s n<n
  ·rw [if_pos h];exact ⟨by omega,h2,fun _=>h3 h⟩
  ·have he:fv s n=n:=by omega
   rw [if_neg h]
   rw [he] at h2
   by_cases hb:s.testBit n=true
   ·rw [if_pos hb]
    refine ⟨Nat.le_refl _,fun j hj=>?_,fun h=>absurd h (by omega)⟩
    by_cases e:j=n
    ·subst e;exact hb
    ·exact h2 j (by omega)
   ·rw [if_neg hb]
    exact ⟨by omega,h2,fun _=>by simpa using hb⟩
theorem fv_le (s n:Nat):fv s n≤n:=(fv_spec s n).1
theorem fv_below {s n j:Nat} (h:j<fv s n):s.testBit j=true:=(fv_spec s n).2.1 j h
theorem fv_at {s n:Nat} (h:fv s n<n):s.testBit (fv s n)=false:=(fv_spec s n).2.2 h
theorem fv_eq {s n v:Nat} (h1:v≤n) (h2:∀ j,j<v→s.testBit j=true) (h3:v<n→s.testBit v=false):fv s n=v:=by
 rcases Nat.lt_trichotomy (fv s n) v with h|h|h
 ·have:=h2 _ h
  rw [fv_at (by omega)] at this;cases this
 ·exact h
 ·have:=fv_below h
  have:=fv_le s n
  rw [h3 (by omega)] at *;simp_all
def othN (es:List (Int × Int)) (e:Int) (v:Nat):Nat:=((es.getD e.toNat (0,0)).1+(es.getD e.toNat (0,0)).2-v).toNat
def matL (es:List (Int × Int)) (n:Nat):Nat→Nat→List (List Int)
 | 0,s=>if fv s n=n then [[]] else []
 | k+1,s=>if fv s n=n then [[]] else (atL es (fv s n)).flatMap fun e=>if s.testBit (othN es e (fv s n)) then [] else (matL es n k (s|||2^fv s n|||2^othN es e (fv s n))).map (e::·)
def matTo (es:List (Int × Int)) (n k s t:Nat):List (List Int):=((atL es (fv s n)).take t).flatMap fun e=>if s.testBit (othN es e (fv s n)) then [] else (matL es n k (s|||2^fv s n|||2^othN es e (fv s n))).map (e::·)
theorem matL_end {es:List (Int × Int)} {n s:Nat} (h:fv s n=n):∀ k,matL es n k s=[[]]
 | 0=>by unfold matL;rw [if_pos h]
 | k+1=>by unfold matL;rw [if_pos h]
theorem matL_to {es:List (Int × Int)} {n k s:Nat} (h:fv s n<n):matL es n (k+1) s=matTo es n k s (atL es (fv s n)).length:=by
 unfold matTo;rw [List.take_length,matL,if_neg (by omega)]
theorem matTo_succ {es:List (Int × Int)} {n k s t:Nat} (h:t<(atL es (fv s n)).length):matTo es n k s (t+1)=matTo es n k s t++if s.testBit (othN es ((atL es (fv s n)).getD t 0) (fv s n)) then [] else (matL es n k (s|||2^fv s n|||2^othN es ((atL es (fv s n)).getD t 0) (fv s n))).map ((atL es (fv s n)).getD t 0::·):=by
 unfold matTo
 rw [List.take_succ_eq_append_getElem h,List.flatMap_append,getD_of h]
 simp
def left (s n:Nat):Nat:=unseen (fun j=>s.testBit j) n
theorem or_insB (s y:Nat):(fun j=>(s|||2^y).testBit j)=insB (fun j=>s.testBit j) y:=by
 funext j;simp [insB,Nat.testBit_or,Nat.testBit_two_pow]
theorem left_two {s n v w:Nat} (hv:v<n) (hw:w<n) (h1:s.testBit v=false) (h2:s.testBit w=false) (hne:v≠w):left (s|||2^v|||2^w) n+2=left s n:=by
 unfold left
 rw [or_insB,or_insB]
 have a:=unseen_ins (S:=fun j=>s.testBit j) hv h1
 have b:=unseen_ins (S:=insB (fun j=>s.testBit j) v) hw (by simp [insB,h2,hne])
 omega
section
variable {n:Int} {es:List (Int × Int)}
theorem srt_le (h:Srt es) {i j:Nat} (hij:i≤j) (hj:j<es.length):(es.getD i (0,0)).1≤(es.getD j (0,0)).1:=by
  induction j with
  | zero => have : i = 0 := by omega
            subst this;exact Int.le_refl _
  | succ j ih=>
    by_cases e:i=j+1
    · subst e;exact Int.le_refl _
    · have a:=ih (by omega) (by omega)
      have b:=h j hj
      unfold ltE at b
      omega
structure FirstE (n:Int) (es:List (Int × Int)) (s i w:Nat):Prop where
 lt:i<es.length
 fst:(es.getD i (0,0)).1=fv s n.toNat
 snd:(es.getD i (0,0)).2=w
 wn:w<n.toNat
 vw:fv s n.toNat<w
theorem firstE (hg:IsG n es) {s i w:Nat} (hi:i<es.length) (ho:on (es.getD i (0,0)) (fv s n.toNat)=true) (hw:(w:Int)=(es.getD i (0,0)).1+(es.getD i (0,0)).2-fv s n.toNat) (hs:s.testBit w=false):FirstE n es s i w:=by
 obtain ⟨d1,d2,d3,d4,d5⟩:=hg.ed.ends es[i] (List.getElem_mem hi)
 have up:=hg.up es[i] (List.getElem_mem hi)
 rw [← getD_of (d:=(0,0)) hi] at d1 d2 d3 d4 d5 up
 unfold on at ho
 simp only [Bool.or_eq_true,beq_iff_eq] at ho
 have nlt:¬ w<fv s n.toNat:=fun h=>by rw [fv_below h] at hs;cases hs
 refine ⟨hi,?_,?_,?_,?_⟩ <;> omega
theorem isS_asc {l:List Int} {m:Nat} (ha:Asc l) (hr:∀ x∈l,0≤x∧x<m):IsS l m:=by
 intro i hi
 have:=hr _ (List.getElem_mem hi)
 rw [getD_of hi]
 refine ⟨this.1,by omega,fun h0=>?_⟩
 unfold Asc at ha
 rw [List.pairwise_iff_getElem] at ha
 rw [getD_of (by omega)]
 exact ha _ _ (by omega) hi (by omega)
theorem mem_matL (hg:IsG n es):∀ {k s:Nat} {l:List Int},l∈matL es n.toNat k s→Asc l∧∀ x∈l,0≤x∧x<es.length∧(fv s n.toNat:Int)≤(es.getD x.toNat (0,0)).1
 | 0,s,l,h=>by
  unfold matL at h
  split at h
  ·rw [List.mem_singleton] at h;subst h
   exact ⟨List.Pairwise.nil,fun x hx=>by cases hx⟩
  ·cases h
 | k+1,s,l,h=>by
  by_cases he:fv s n.toNat=n.toNat
  ·rw [matL_end he,List.mem_singleton] at h;subst h
   exact ⟨List.Pairwise.nil,fun x hx=>by cases hx⟩
  ·unfold matL at h
   rw [if_neg he,List.mem_flatMap] at h
   obtain ⟨e,hm,hl⟩:=h
   obtain ⟨i,rfl,hi,ho⟩:=mem_atL.1 hm
   by_cases hb:s.testBit (othN es (i:Int) (fv s n.toNat))=true
   ·rw [if_pos hb] at hl;cases hl
   ·rw [if_neg hb,List.mem_map] at hl
    obtain ⟨m,hm',rfl⟩:=hl
    have hlt:fv s n.toNat<n.toNat:=by have:=fv_le s n.toNat;omega
    have hw:(othN es (i:Int) (fv s n.toNat):Int)=(es.getD i (0,0)).1+(es.getD i (0,0)).2-fv s n.toNat:=by
     obtain ⟨d1,d2,d3,d4,d5⟩:=hg.ed.ends es[i] (List.getElem_mem hi)
     rw [← getD_of (d:=(0,0)) hi] at d1 d2 d3 d4 d5
     unfold on at ho
     simp only [Bool.or_eq_true,beq_iff_eq] at ho
     unfold othN;rw [Int.toNat_natCast];omega
    have fe:=firstE hg hi ho hw (by simpa using hb)
    obtain ⟨ha,hr⟩:=mem_matL hg hm'
    have hfv:fv s n.toNat<fv (s|||2^fv s n.toNat|||2^othN es (i:Int) (fv s n.toNat)) n.toNat:=by
     rcases Nat.lt_or_ge (fv s n.toNat) (fv (s|||2^fv s n.toNat|||2^othN es (i:Int) (fv s n.toNat)) n.toNat) with h|h
     ·exact h
     ·have:=fv_at (s:=s|||2^fv s n.toNat|||2^othN es (i:Int) (fv s n.toNat)) (n:=n.toNat) (by omega)
      rw [Nat.testBit_or,Nat.testBit_or,Bool.or_eq_false_iff,Bool.or_eq_false_iff,Nat.testBit_two_pow] at this
      have h2:fv (s|||2^fv s n.toNat|||2^othN es (i:Int) (fv s n.toNat)) n.toNat≠fv s n.toNat:=fun e=>by rw [e] at this;simp at this
      have:=this.1.1
      rw [fv_below (s:=s) (n:=n.toNat) (by omega)] at this;cases this
    refine ⟨List.pairwise_cons.2 ⟨fun y hy=>?_,ha⟩,fun x hx=>?_⟩
    ·obtain ⟨y0,y1,y2⟩:=hr y hy
     rcases Int.lt_or_le (i:Int) y with h|h
     ·exact h
     ·have:=srt_le hg.srt (i:=y.toNat) (j:=i) (by omega) hi
      have:=fe.fst
      omega
    ·rcases List.mem_cons.1 hx with rfl|hx
     ·have:=fe.fst
      rw [Int.toNat_natCast];omega
     ·obtain ⟨y0,y1,y2⟩:=hr x hx
      omega
theorem matL_isS (hg:IsG n es) {k s:Nat} {l:List Int} (h:l∈matL es n.toNat k s):IsS l es.length:=by
 obtain ⟨h1,h2⟩:=mem_matL hg h
 exact isS_asc h1 fun x hx=>⟨(h2 x hx).1,(h2 x hx).2.1⟩
theorem matL_length (hg:IsG n es):∀ k s,(matL es n.toNat k s).length≤3^k
 | 0,s=>by unfold matL;split <;> simp
 | k+1,s=>by
  by_cases he:fv s n.toNat=n.toNat
  ·rw [matL_end he];exact Nat.pos_of_ne_zero (by simp)
  ·have hlt:=fv_le s n.toNat
   have h3:=hg.three (v:=(fv s n.toNat:Int)) (by omega) (by omega)
   rw [matL_to (by omega),matTo,List.take_length]
   have:=flatMap_len (c:=3^k) (atL es (fv s n.toNat:Int)) (f:=fun e=>if s.testBit (othN es e (fv s n.toNat)) then [] else (matL es n.toNat k (s|||2^fv s n.toNat|||2^othN es e (fv s n.toNat))).map (e::·)) fun e _=>by
    split
    ·simp
    ·rw [List.length_map];exact matL_length hg k _
   rw [h3] at this
   rw [Nat.pow_succ,Nat.mul_comm];exact this
end
end Go.Proofs
namespace Go.Proofs
open Go.Abs

section
variable {es:List (Int × Int)} {p:Nat→Bool} {l C:List Int} {n:Int}

theorem nodup_sup {l m:List Int} (hl:l.Nodup) (hs:∀ x∈l,x∈m) (hm:m.length≤l.length):∀ x∈m,x∈l:=by
 intro x hx
 apply Classical.byContradiction
 intro hn
 have:=nodup_sub (m:=m.erase x) hl fun y hy=>by
  rw [List.mem_erase_of_ne (by rintro rfl;exact hn hy)];exact hs y hy
 rw [List.length_erase_of_mem hx] at this
 have:=List.length_pos_of_mem hx
 omega
theorem asc_nodup {l:List Int} (h:Asc l):l.Nodup:=by
 unfold Asc at h
 exact h.imp fun h=>by intro e;omega
theorem filtB_nodup (S:Nat→Bool) (k:Nat):(filtB S k).Nodup:=asc_nodup (filtB_asc S k)
def degC (es:List (Int × Int)) (C:List Int) (x:Nat):Nat:=(C.filter fun i=>on (es.getD i.toNat (0,0)) x).length
theorem degC_snoc (C:List Int) (i:Nat) (x:Nat):degC es (C++[(i:Int)]) x=degC es C x+if on (es.getD i (0,0)) x then 1 else 0:=by
 unfold degC
 rw [List.filter_append,List.length_append]
 rw [List.filter_cons,Int.toNat_natCast,List.filter_nil]
 cases h:on (es.getD i (0,0)) x <;> rfl
theorem degC_cons (C:List Int) (i:Nat) (x:Nat):degC es ((i:Int)::C) x=degC es C x+if on (es.getD i (0,0)) x then 1 else 0:=by
 unfold degC
 rw [List.filter_cons,Int.toNat_natCast]
 cases h:on (es.getD i (0,0)) x <;> simp
def OneAt (n:Int) (es:List (Int × Int)) (l:List Int):Prop:=∀ x:Nat,(x:Int)<n→degC es l x=1
def leftP (l:List Int) (j:Nat):Bool:=!bitB l j
theorem left_deg (hg:IsG n es) (hs:IsS l es.length) (ho:OneAt n es l) {x:Nat} (hx:(x:Int)<n):degB es (leftP l) x=2:=by
 have h3:=hg.three (v:=(x:Int)) (by omega) hx
 have h1:=ho x hx
 unfold degC at h1
 rw [hs.filt] at h1
 have e1:((filtB (bitB l) es.length).filter fun i=>on (es.getD i.toNat (0,0)) x).length=((List.range es.length).filter fun j=>on (es.getD j (0,0)) x&&bitB l j).length:=by
  unfold filtB
  rw [List.filter_map,List.length_map,List.filter_filter]
  congr 1
 have h1':((List.range es.length).filter fun j=>on (es.getD j (0,0)) x&&bitB l j).length=1:=by
  rw [← e1]
  have:filtB (bitB (filtB (bitB l) es.length)) es.length=filtB (bitB l) es.length:=by rw [← hs.filt];exact hs.filt.symm
  rw [← hs.filt] at h1 ⊢
  exact h1
 unfold atL atTo at h3
 rw [List.length_map] at h3
 unfold degB filtB
 rw [List.length_map]
 have key:∀ L:List Nat,(L.filter fun j=>on (es.getD j (0,0)) x).length=(L.filter fun j=>on (es.getD j (0,0)) x&&leftP l j).length+(L.filter fun j=>on (es.getD j (0,0)) x&&bitB l j).length:=by
  intro L
  induction L with
  | nil=>rfl
  | cons a L ih=>
   rw [List.filter_cons,List.filter_cons,List.filter_cons]
   have hlp:leftP l a=!bitB l a:=rfl
   rw [hlp]
   cases h1:on (es.getD a (0,0)) x <;> cases h2:bitB l a <;> simp only [Bool.and_true,Bool.and_false,Bool.not_true,Bool.not_false,if_true,if_false,Bool.false_eq_true,List.length_cons] <;> omega
 have:=key (List.range es.length)
 omega
structure Walk (n:Int) (es:List (Int × Int)) (p:Nat→Bool) (e u0:Nat) (E:Nat→Prop) (C:List Int) (now w v:Nat):Prop where
 mem:∀ i∈C,∃ j:Nat,i=j∧j<es.length∧p j=true∧Rch (eAdj es p) e j∧¬ E j
 nd:C.Nodup
 par:∀ x:Nat,degC es C x%2=1↔¬ (x=u0↔x=w)
 lt:now<es.length
 pn:p now=true
 rch:Rch (eAdj es p) e now
 onw:on (es.getD now (0,0)) w=true
 onv:on (es.getD now (0,0)) v=true
 ne:w≠v
 wn:(w:Int)<n
 vn:(v:Int)<n
 last:(C=[]∧now=e∧w=u0)∨((e:Int)∈C∧∃ c:Nat,(c:Int)∈C∧c≠now∧on (es.getD c (0,0)) w=true)
theorem on_iff2 {i w v x:Nat} (h1:on (es.getD i (0,0)) w=true) (h2:on (es.getD i (0,0)) v=true) (hne:w≠v):on (es.getD i (0,0)) x=true↔x=w∨x=v:=by
 unfold on at h1 h2 ⊢
 simp only [Bool.or_eq_true,beq_iff_eq] at h1 h2 ⊢
 omega
variable {e u0 now w v:Nat} {E:Nat→Prop}
theorem Walk.step (h:Walk n es p e u0 E C now w v) (hC:(now:Int)∉C) (hE:¬ E now) {q v':Nat} (hq:q<es.length) (hp:p q=true) (hqn:q≠now) (hov:on (es.getD q (0,0)) v=true) (hov':on (es.getD q (0,0)) v'=true) (hvv:v≠v') (hvn:(v':Int)<n) :
 Walk n es p e u0 E (C++[(now:Int)]) q v v':=by
 refine ⟨fun i hi=>?_,?_,fun x=>?_,hq,hp,.step h.rch ⟨hq,hp,_,h.onv,hov⟩,hov,hov',hvv,h.vn,hvn,.inr ⟨?_,now,by simp,fun e=>hqn e.symm,h.onv⟩⟩
 ·rcases List.mem_append.1 hi with hi|hi
  ·exact h.mem i hi
  ·rw [List.mem_singleton] at hi
   exact ⟨now,hi,h.lt,h.pn,h.rch,hE⟩
 ·rw [List.nodup_append]
  refine ⟨h.nd,by simp,fun a ha b hb=>?_⟩
  rw [List.mem_singleton] at hb
  rintro rfl
  rw [hb] at ha
  exact hC ha
 ·rw [degC_snoc]
  have hp:=h.par x
  have ho:=on_iff2 (x:=x) h.onw h.onv h.ne
  have hne:=h.ne
  by_cases h1:on (es.getD now (0,0)) x=true
  ·rw [if_pos h1]
   have h2:=ho.1 h1
   by_cases hx:x=u0 <;> by_cases hw:x=w <;> by_cases hv:x=v <;> simp [hx,hw,hv] at hp h2 ⊢ <;> omega
  ·rw [if_neg h1,Nat.add_zero]
   have h2:x≠w∧x≠v:=⟨fun e=>h1 (ho.2 (.inl e)),fun e=>h1 (ho.2 (.inr e))⟩
   rw [hp]
   constructor
   ·intro h3 h4;exact h3 ⟨fun e=>absurd (h4.1 e) h2.2,fun e=>absurd e h2.1⟩
   ·intro h3 h4;exact h3 ⟨fun e=>absurd (h4.1 e) h2.1,fun e=>absurd e h2.2⟩
 ·rcases h.last with ⟨_,h2,_⟩|⟨h1,_⟩
  ·rw [h2];simp
  ·exact List.mem_append_left _ h1
theorem degC_le (h:∀ i∈C,∃ j:Nat,i=j∧j<es.length∧p j=true) (hn:C.Nodup) (x:Nat):degC es C x≤degB es p x:=by
 unfold degC degB
 refine nodup_sub (hn.filter _) fun i hi=>?_
 rw [List.mem_filter] at hi
 obtain ⟨j,rfl,h1,h2⟩:=h i hi.1
 rw [mem_filtB]
 refine ⟨j,rfl,h1,?_⟩
 have:=hi.2
 rw [Int.toNat_natCast] at this
 rw [this,h2];rfl
def Deg2 (n:Int) (es:List (Int × Int)) (p:Nat→Bool):Prop:=∀ x:Nat,(x:Int)<n→0<degB es p x→degB es p x=2
theorem degB_pos {i x:Nat} (h1:i<es.length) (h2:p i=true) (h3:on (es.getD i (0,0)) x=true):0<degB es p x:=
 List.length_pos_of_mem (mem_filtB.2 ⟨i,rfl,h1,by rw [h3,h2];rfl⟩)
theorem Walk.stop (h:Walk n es p e u0 E C now w v) (h2:Deg2 n es p) (hend:∀ i,i<es.length→∀ x:Int,on (es.getD i (0,0)) x=true→0≤x∧x<n) (hEe:¬ E e) (hEc:∀ a b,a<es.length→E a→eAdj es p a b→E b) (hs:(now:Int)∈C∨E now) :
 ∀ j,Rch (eAdj es p) e j→(j:Int)∈C:=by
 have hm:∀ i∈C,∃ j:Nat,i=j∧j<es.length∧p j=true:=fun i hi=>by obtain ⟨j,h1,h2,h3,_⟩:=h.mem i hi;exact ⟨j,h1,h2,h3⟩
 have hE:¬ E now:=by
  intro hn
  rcases h.last with ⟨_,h1,_⟩|⟨_,c,h1,h3,h4⟩
  ·rw [h1] at hn;exact hEe hn
  ·obtain ⟨c',e1,e2,e3,_,e5⟩:=h.mem c h1
   obtain rfl:c=c':=by omega
   exact e5 (hEc now c h.lt hn ⟨e2,e3,_,h.onw,h4⟩)
 have hC:(now:Int)∈C:=hs.elim id fun h=>absurd h hE
 obtain ⟨he,c,hc1,hc2,hc3⟩:(e:Int)∈C∧∃ c:Nat,(c:Int)∈C∧c≠now∧on (es.getD c (0,0)) w=true:=by
  rcases h.last with ⟨h1,_⟩|h1
  ·rw [h1] at hC;cases hC
  ·exact h1
 have hd:degC es C w=2:=by
  have hle:=degC_le hm h.nd w
  rw [h2 w h.wn (degB_pos h.lt h.pn h.onw)] at hle
  have:2≤degC es C w:=by
   have:=nodup_sub (l:=[(now:Int),(c:Int)]) (m:=C.filter fun i=>on (es.getD i.toNat (0,0)) w) (by simp;omega) fun x hx=>by
    rw [List.mem_filter]
    simp only [List.mem_cons,List.not_mem_nil,or_false] at hx
    rcases hx with rfl|rfl
    ·exact ⟨hC,by rw [Int.toNat_natCast];exact h.onw⟩
    ·exact ⟨hc1,by rw [Int.toNat_natCast];exact hc3⟩
   unfold degC;simpa using this
  omega
 have hw:w=u0:=by
  have:=h.par w
  rw [hd] at this
  apply Classical.byContradiction
  intro hn
  have:=this.2 fun h=>hn (h.2 rfl)
  omega
 have hev:∀ x,degC es C x%2=0:=by
  intro x
  have:=h.par x
  rw [hw] at this
  have h':¬ degC es C x%2=1:=fun hh=>this.1 hh Iff.rfl
  omega
 intro j hj
 refine hj.keep (P:=fun j=>(j:Int)∈C) (fun a b hab ha=>?_) he
 obtain ⟨hb1,hb2,x,hx1,hx2⟩:=hab
 obtain ⟨a',e1,ha1,ha2⟩:=hm _ ha
 obtain rfl:a=a':=by omega
 obtain ⟨x0,x1⟩:=hend a ha1 x hx1
 obtain ⟨y,rfl⟩:∃ y:Nat,x=y:=⟨x.toNat,by omega⟩
 have hle:=degC_le hm h.nd y
 rw [h2 y x1 (degB_pos ha1 ha2 hx1)] at hle
 have hpos:0<degC es C y:=List.length_pos_of_mem (List.mem_filter.2 ⟨ha,by rw [Int.toNat_natCast];exact hx1⟩)
 have hey:=hev y
 have hall:=nodup_sup (l:=C.filter fun i=>on (es.getD i.toNat (0,0)) y) (m:=filtB (fun j=>on (es.getD j (0,0)) y&&p j) es.length) (h.nd.filter _) (fun i hi=>by
  rw [List.mem_filter] at hi
  obtain ⟨j,rfl,h1,h2⟩:=hm i hi.1
  rw [mem_filtB]
  refine ⟨j,rfl,h1,?_⟩
  have:=hi.2
  rw [Int.toNat_natCast] at this
  rw [this,h2];rfl) (by
   have:=h2 y x1 (degB_pos ha1 ha2 hx1)
   unfold degB at this
   unfold degC at hpos hey hle
   omega)
 have:=hall b (mem_filtB.2 ⟨b,rfl,hb1,by rw [hx2,hb2];rfl⟩)
 exact (List.mem_filter.1 this).1
theorem Walk.comp (h:Walk n es p e u0 E C now w v) (hall:∀ j,Rch (eAdj es p) e j→(j:Int)∈C):C.length=(compL es p e).length∧∀ j:Nat,(j:Int)∈C↔Rch (eAdj es p) e j:=by
 have hiff:∀ j:Nat,(j:Int)∈C↔Rch (eAdj es p) e j:=fun j=>⟨fun hj=>by
  obtain ⟨j',e1,_,_,h4,_⟩:=h.mem _ hj
  obtain rfl:j=j':=by omega
  exact h4,hall j⟩
 refine ⟨Nat.le_antisymm ?_ ?_,hiff⟩
 ·refine nodup_sub h.nd fun x hx=>?_
  obtain ⟨j,rfl,h1,_,h3,_⟩:=h.mem x hx
  exact mem_compL.2 ⟨j,rfl,h1,h3⟩
 ·refine nodup_sub (asc_nodup (compL_asc e)) fun x hx=>?_
  obtain ⟨j,rfl,_,h3⟩:=mem_compL.1 hx
  exact hall j h3
theorem other_left (h2:degB es p v=2) (hnow:now<es.length):∃ q,q<es.length∧p q=true∧q≠now∧on (es.getD q (0,0)) v=true:=by
 apply Classical.byContradiction
 intro hn
 unfold degB at h2
 have:=nodup_sub (m:=[(now:Int)]) (filtB_nodup (fun j=>on (es.getD j (0,0)) v&&p j) es.length) fun x hx=>by
  obtain ⟨j,rfl,h1,h3⟩:=mem_filtB.1 hx
  rw [Bool.and_eq_true] at h3
  rw [List.mem_singleton]
  apply Classical.byContradiction
  intro hne
  exact hn ⟨j,h1,h3.2,fun e=>hne (by rw [e]),h3.1⟩
 rw [h2] at this
 simp at this
end
theorem matL_one {n:Int} {es:List (Int × Int)} (hg:IsG n es):∀ {k s:Nat} {l:List Int},l∈matL es n.toNat k s→∀ x:Nat,x<n.toNat→degC es l x=if s.testBit x then 0 else 1
 | 0,s,l,h,x,hx=>by
  unfold matL at h
  by_cases he:fv s n.toNat=n.toNat
  ·rw [if_pos he,List.mem_singleton] at h
   subst h
   rw [fv_below (s:=s) (n:=n.toNat) (j:=x) (by omega)];rfl
  ·rw [if_neg he] at h;cases h
 | k+1,s,l,h,x,hx=>by
  by_cases he:fv s n.toNat=n.toNat
  ·rw [matL_end he,List.mem_singleton] at h
   subst h
   rw [fv_below (s:=s) (n:=n.toNat) (j:=x) (by omega)];rfl
  ·unfold matL at h
   rw [if_neg he,List.mem_flatMap] at h
   obtain ⟨e,hm,hl⟩:=h
   obtain ⟨i,rfl,hi,ho⟩:=mem_atL.1 hm
   by_cases hb:s.testBit (othN es (i:Int) (fv s n.toNat))=true
   ·rw [if_pos hb] at hl;cases hl
   ·rw [if_neg hb,List.mem_map] at hl
    obtain ⟨m,hm',rfl⟩:=hl
    have hlt:fv s n.toNat<n.toNat:=by have:=fv_le s n.toNat;omega
    have hw:(othN es (i:Int) (fv s n.toNat):Int)=(es.getD i (0,0)).1+(es.getD i (0,0)).2-fv s n.toNat:=by
     obtain ⟨d1,d2,d3,d4,d5⟩:=hg.ed.ends es[i] (List.getElem_mem hi)
     rw [← getD_of (d:=(0,0)) hi] at d1 d2 d3 d4 d5
     unfold on at ho
     simp only [Bool.or_eq_true,beq_iff_eq] at ho
     unfold othN;rw [Int.toNat_natCast];omega
    have fe:=firstE hg hi ho hw (by simpa using hb)
    obtain ⟨w,hww⟩:∃ w,w=othN es (i:Int) (fv s n.toNat):=⟨_,rfl⟩
    rw [← hww] at hm' hb hw fe
    have ih:=matL_one hg hm' x hx
    have hvb:=fv_at hlt
    have hon:on (es.getD i (0,0)) x=true↔x=fv s n.toNat∨x=w:=by
     have:=fe.fst;have:=fe.snd
     unfold on
     simp only [Bool.or_eq_true,beq_iff_eq]
     omega
    have hvw:=fe.vw
    rw [degC_cons,ih]
    rw [Nat.testBit_or,Nat.testBit_or,Nat.testBit_two_pow,Nat.testBit_two_pow]
    by_cases h1:x=fv s n.toNat
    ·rw [h1] at hon ⊢
     rw [if_pos (hon.2 (.inl rfl)),hvb];simp
    ·by_cases h2:x=w
     ·rw [if_pos (hon.2 (.inr h2))]
      rw [h2,show s.testBit w=false by simpa using hb];simp
     ·rw [if_neg fun h=>(hon.1 h).elim h1 h2]
      rw [decide_eq_false fun e=>h1 e.symm,decide_eq_false fun e=>h2 e.symm]
      simp
theorem mats_one {n:Int} {es:List (Int × Int)} (hg:IsG n es) {l:List Int} (h:l∈matL es n.toNat 10 0):OneAt n es l:=by
 intro x hx
 have:=matL_one hg h x (by omega)
 simpa using this
end Go.Proofs
namespace Go.Proofs
open Go.Abs

variable {es:List (Int × Int)} {p q:Nat→Bool} {n:Int} {w:Int}

def cn (f:Nat→Bool):Nat→Nat
 | 0=>0
 | k+1=>cn f k+if f k then 1 else 0
theorem cn_filt (f:Nat→Bool):∀ k,(filtB f k).length=cn f k
 | 0=>rfl
 | k+1=>by rw [filtB_succ,List.length_append,cn_filt f k,cn];split <;> rfl
theorem cn_congr {f g:Nat→Bool}:∀ {k},(∀ i,i<k→f i=g i)→cn f k=cn g k
 | 0,_=>rfl
 | k+1,h=>by rw [cn,cn,cn_congr fun i hi=>h i (by omega),h k (by omega)]
theorem cn_le {f g:Nat→Bool}:∀ {k},(∀ i,i<k→f i=true→g i=true)→cn f k≤cn g k
 | 0,_=>Nat.le_refl _
 | k+1,h=>by
  have:=cn_le (k:=k) fun i hi=>h i (by omega)
  have:=h k (by omega)
  rw [cn,cn]
  cases hf:f k <;> cases hg:g k <;> simp_all
  omega
theorem cn_add {f g:Nat→Bool}:∀ {k},(∀ i,i<k→¬ (f i=true∧g i=true))→cn (fun j=>f j||g j) k=cn f k+cn g k
 | 0,_=>rfl
 | k+1,h=>by
  have:=cn_add (k:=k) fun i hi=>h i (by omega)
  have:=h k (by omega)
  rw [cn,cn,cn]
  cases hf:f k <;> cases hg:g k <;> simp_all <;> omega
theorem degB_cn (p:Nat→Bool) (w:Int):degB es p w=cn (fun j=>on (es.getD j (0,0)) w&&p j) es.length:=cn_filt _ _
theorem deg_le (h:∀ j,j<es.length→p j=true→q j=true):degB es p w≤degB es q w:=by
 rw [degB_cn,degB_cn]
 exact cn_le fun j hj hp=>by simp only [Bool.and_eq_true] at hp ⊢;exact ⟨hp.1,h j hj hp.2⟩
def sm (f:Nat→Nat):Nat→Nat
 | 0=>0
 | k+1=>sm f k+f k
theorem sm_congr {f g:Nat→Nat}:∀ {k},(∀ i,i<k→f i=g i)→sm f k=sm g k
 | 0,_=>rfl
 | k+1,h=>by rw [sm,sm,sm_congr fun i hi=>h i (by omega),h k (by omega)]
theorem sm_add (f g:Nat→Nat):∀ k,sm (fun i=>f i+g i) k=sm f k+sm g k
 | 0=>rfl
 | k+1=>by rw [sm,sm,sm,sm_add f g k];omega
theorem sm_zero:∀ k,sm (fun _=>0) k=0
 | 0=>rfl
 | k+1=>by rw [sm,sm_zero k]
theorem sm_if (f:Nat→Bool):∀ k,sm (fun i=>if f i then 1 else 0) k=cn f k
 | 0=>rfl
 | k+1=>by rw [sm,cn,sm_if f k]
theorem sm_swap (f:Nat→Nat→Nat) (m:Nat):∀ k,sm (fun i=>sm (fun j=>f i j) m) k=sm (fun j=>sm (fun i=>f i j) k) m
 | 0=>by simp only [sm];exact (sm_zero m).symm
 | k+1=>by rw [sm,sm_swap f m k,← sm_add];exact sm_congr fun i _=>by rw [sm]
theorem sm_one {a:Nat} {c:Nat}:∀ {k},a<k→sm (fun i=>if i=a then c else 0) k=c
 | k+1,h=>by
  rw [sm]
  by_cases e:a=k
  ·subst e
   rw [sm_congr (g:=fun _=>0) fun i hi=>if_neg (by omega),sm_zero];simp
  ·rw [sm_one (k:=k) (by omega),if_neg (by omega),Nat.add_zero]
structure EndsIn (n:Int) (es:List (Int × Int)):Prop where
 get:∀ j,j<es.length→∃ a b:Nat,es.getD j (0,0)=((a:Int),(b:Int))∧a≠b∧(a:Int)<n∧(b:Int)<n
theorem IsG.endsIn (h:IsG n es):EndsIn n es:=⟨fun j hj=>by
 have hm:es.getD j (0,0)∈es:=by rw [getD_of hj];exact List.getElem_mem _
 obtain ⟨h1,h2,h3,h4,h5⟩:=h.ed.ends _ hm
 refine ⟨(es.getD j (0,0)).1.toNat,(es.getD j (0,0)).2.toNat,?_,by omega,by omega,by omega⟩
 rw [Int.toNat_of_nonneg h1,Int.toNat_of_nonneg h3]⟩
theorem hands (he:EndsIn n es) (A:Nat→Bool) (p:Nat→Bool) :
 sm (fun w=>if A w then degB es p w else 0) n.toNat=sm (fun j=>if p j then (if A (es.getD j (0,0)).1.toNat then 1 else 0)+(if A (es.getD j (0,0)).2.toNat then 1 else 0) else 0) es.length:=by
 have e1:∀ w,(if A w then degB es p w else 0)=sm (fun j=>if A w&&(on (es.getD j (0,0)) w&&p j) then 1 else 0) es.length:=fun w=>by
  cases hA:A w with
  | false=>simp [sm_zero]
  | true=>rw [sm_if];simp only [Bool.true_and,if_true];rw [degB_cn]
 rw [sm_congr fun w _=>e1 w,sm_swap]
 refine sm_congr fun j hj=>?_
 obtain ⟨a,b,hab,hne,ha,hb⟩:=he.get j hj
 rw [hab]
 cases hp:p j with
 | false=>simp [sm_zero]
 | true=>
  simp only [if_true,Int.toNat_natCast,Bool.and_true]
  rw [← sm_one (a:=a) (c:=if A a then 1 else 0) (k:=n.toNat) (by omega),← sm_one (a:=b) (c:=if A b then 1 else 0) (k:=n.toNat) (by omega),← sm_add]
  refine sm_congr fun w hw=>?_
  unfold on
  by_cases h1:w=a
  ·subst h1
   simp [hne]
  ·by_cases h2:w=b
   ·subst h2
    simp [hne,h1]
   ·have g1:¬ (a:Int)=w:=by omega
    have g2:¬ (b:Int)=w:=by omega
    simp [h1,h2,g1,g2]
end Go.Proofs
namespace Go.Proofs
open Go.Abs

variable {es fs gs:List (Int × Int)} {l:List Int} {n:Int}

theorem cmb_mem {m:Nat}:∀ {k f:Nat} {l:List Int},l.length=k→Asc l→(∀ x∈l,(f:Int)≤x∧x<m)→l∈cmb m k f
 | 0,f,[],_,_,_=>by rw [cmb_zero];simp
 | k+1,f,x::l,hl,ha,hr=>by
  have hx:=hr x (by simp)
  unfold Asc at ha
  rw [List.pairwise_cons] at ha
  rw [cmb_succ,cmbTo,List.mem_flatMap]
  refine ⟨x.toNat,List.mem_filter.2 ⟨List.mem_range.2 (by omega),by simp;omega⟩,?_⟩
  rw [List.mem_map]
  refine ⟨l,cmb_mem (by simpa using hl) ha.2 fun y hy=>?_,by rw [Int.toNat_of_nonneg (by omega)]⟩
  have h1:=hr y (by simp [hy])
  have h2:=ha.1 y hy
  omega
end Go.Proofs
namespace Go.Proofs
open Go.Abs

variable {es fs:List (Int × Int)} {l:List Int} {n:Int}

theorem sm_mul (c:Nat) (f:Nat→Nat):∀ k,sm (fun i=>c*f i) k=c*sm f k
 | 0=>rfl
 | k+1=>by rw [sm,sm,sm_mul c f k,Nat.mul_add]
end Go.Proofs
namespace Go.Proofs
open Go.Abs

variable {l m c:List Int} {es fs:List (Int × Int)} {ls L:List (List Int)} {n:Int}

theorem filtB_and (f p:Nat→Bool):∀ k,filtB (fun j=>f j&&p j) k=(filtB f k).filter fun i=>p i.toNat
 | 0=>rfl
 | k+1=>by
  rw [filtB_succ,filtB_succ,List.filter_append,filtB_and f p k]
  cases hf:f k <;> cases hp:p k <;> simp [hp]
theorem list3 {α:Type} {l:List α} (h:l.length=3):∃ a b c,l=[a,b,c]:=by
 match l,h with
 | [a,b,c],_=>exact ⟨a,b,c,rfl⟩
theorem col_deg (hg:IsG n es) (hc:IsC es c) {w:Nat} (hw:(w:Int)<n) {x:Int} (hx:0≤x∧x≤2):degB es (fun j=>c.getD j 0==x) w=1:=by
 have h3:=hg.three (v:=(w:Int)) (by omega) hw
 have ha:Asc (atL es (w:Int)):=filtB_asc _ _
 obtain ⟨i,j,k,e⟩:=list3 h3
 have hd:degB es (fun j=>c.getD j 0==x) w=((atL es (w:Int)).filter fun i=>c.getD i.toNat 0==x).length:=by
  unfold degB
  rw [filtB_and];rfl
 rw [hd,e]
 rw [e] at ha
 unfold Asc at ha
 simp only [List.pairwise_cons,List.mem_cons,List.not_mem_nil,or_false,forall_eq_or_imp,forall_eq] at ha
 have mem:∀ y∈atL es (w:Int),∃ q:Nat,y=q∧q<es.length∧on (es.getD q (0,0)) w=true:=fun y hy=>mem_atL.1 hy
 obtain ⟨i',hi,hi2,hi3⟩:=mem i (by rw [e];simp)
 obtain ⟨j',hj,hj2,hj3⟩:=mem j (by rw [e];simp)
 obtain ⟨k',hk,hk2,hk3⟩:=mem k (by rw [e];simp)
 have c1:=hc.col j' hj2 i' (by omega) ⟨w,hi3,hj3⟩
 have c2:=hc.col k' hk2 i' (by omega) ⟨w,hi3,hk3⟩
 have c3:=hc.col k' hk2 j' (by omega) ⟨w,hj3,hk3⟩
 have r1:=hc.get i'
 have r2:=hc.get j'
 have r3:=hc.get k'
 subst hi;subst hj;subst hk
 have:(c.getD i' 0=x∧c.getD j' 0≠x∧c.getD k' 0≠x)∨(c.getD i' 0≠x∧c.getD j' 0=x∧c.getD k' 0≠x)∨(c.getD i' 0≠x∧c.getD j' 0≠x∧c.getD k' 0=x):=by omega
 rcases this with ⟨a1,a2,a3⟩|⟨a1,a2,a3⟩|⟨a1,a2,a3⟩
 ·simp only [List.filter_cons,List.filter_nil,Int.toNat_natCast,beq_iff_eq.2 a1,beq_eq_false_iff_ne.2 a2,beq_eq_false_iff_ne.2 a3];rfl
 ·simp only [List.filter_cons,List.filter_nil,Int.toNat_natCast,beq_eq_false_iff_ne.2 a1,beq_iff_eq.2 a2,beq_eq_false_iff_ne.2 a3];rfl
 ·simp only [List.filter_cons,List.filter_nil,Int.toNat_natCast,beq_eq_false_iff_ne.2 a1,beq_eq_false_iff_ne.2 a2,beq_iff_eq.2 a3];rfl
noncomputable def chB (es:List (Int × Int)) (c:List Int) (e:Nat) (b:Int) (j:Nat):Bool:=rchB (eAdj es (chP c e b)) e j
theorem chB_in {e:Nat} {b:Int} (he:e<es.length) {j:Nat} (h:chB es c e b j=true):j<es.length∧(c.getD j 0=c.getD e 0∨c.getD j 0=b):=by
 have h0:chP c e b e=true:=by unfold chP;simp
 have:=eRch_in (rchB_iff.1 h) ⟨he,h0⟩
 refine ⟨this.1,?_⟩
 have h2:=this.2
 unfold chP at h2
 simpa using h2
theorem chain_even (hg:IsG n es) (hc:IsC es c) {e:Nat} {b:Int} (he:e<es.length) (hb:0≤b∧b≤2) (hne:b≠c.getD e 0):cn (chB es c e b) es.length%2=0:=by
 have n0:=hg.ed.lo
 obtain ⟨a,ha⟩:∃ a,a=c.getD e 0:=⟨_,rfl⟩
 have ra:0≤a∧a≤2:=by rw [ha];exact hc.get e
 have half:∀ x,(x=a∨x=b)→2*cn (fun j=>chB es c e b j&&c.getD j 0==x) es.length=cn (fun w=>@decide (∃ j,j<es.length∧chB es c e b j=true∧on (es.getD j (0,0)) w=true) (Classical.propDecidable _)) n.toNat:=by
  intro x hx
  have rx:0≤x∧x≤2:=by rcases hx with rfl|rfl <;> assumption
  have h:=hands hg.endsIn (fun w=>@decide (∃ j,j<es.length∧chB es c e b j=true∧on (es.getD j (0,0)) w=true) (Classical.propDecidable _)) (fun j=>chB es c e b j&&c.getD j 0==x)
  have e1:∀ w,w<n.toNat→(if @decide (∃ j,j<es.length∧chB es c e b j=true∧on (es.getD j (0,0)) w=true) (Classical.propDecidable _) then degB es (fun j=>chB es c e b j&&c.getD j 0==x) w else 0)=if @decide (∃ j,j<es.length∧chB es c e b j=true∧on (es.getD j (0,0)) w=true) (Classical.propDecidable _) then 1 else 0:=by
   intro w hw
   by_cases hA:∃ j,j<es.length∧chB es c e b j=true∧on (es.getD j (0,0)) w=true
   ·rw [if_pos (by simpa using hA),if_pos (by simpa using hA)]
    obtain ⟨j,j1,j2,j3⟩:=hA
    rw [← col_deg hg hc (w:=w) (by omega) rx]
    refine Nat.le_antisymm (deg_le fun q _ hq=>?_) ?_
    ·rw [Bool.and_eq_true] at hq;exact hq.2
    ·rw [degB_cn,degB_cn]
     refine cn_le fun q hq h=>?_
     rw [Bool.and_eq_true] at h ⊢
     refine ⟨h.1,?_⟩
     rw [Bool.and_eq_true]
     refine ⟨?_,h.2⟩
     have hqx:=beq_iff_eq.1 h.2
     refine rchB_iff.2 (.step (rchB_iff.1 j2) ⟨hq,?_,w,j3,h.1⟩)
     unfold chP
     rcases hx with rfl|rfl
     ·rw [hqx,← ha];simp
     ·rw [hqx];simp
   ·rw [if_neg (by simpa using hA),if_neg (by simpa using hA)]
  have e2:∀ j,j<es.length→(if (chB es c e b j&&c.getD j 0==x)=true then (if @decide (∃ q,q<es.length∧chB es c e b q=true∧on (es.getD q (0,0)) ((es.getD j (0,0)).1.toNat:Nat)=true) (Classical.propDecidable _) then 1 else 0)+(if @decide (∃ q,q<es.length∧chB es c e b q=true∧on (es.getD q (0,0)) ((es.getD j (0,0)).2.toNat:Nat)=true) (Classical.propDecidable _) then 1 else 0) else 0)=2*(if (chB es c e b j&&c.getD j 0==x)=true then 1 else 0):=by
   intro j hj
   obtain ⟨p,q,hpq,_⟩:=hg.endsIn.get j hj
   by_cases hjc:(chB es c e b j&&c.getD j 0==x)=true
   ·rw [if_pos hjc,if_pos hjc]
    have h1:=(Bool.and_eq_true _ _▸hjc).1
    have o1:∃ q,q<es.length∧chB es c e b q=true∧on (es.getD q (0,0)) ((es.getD j (0,0)).1.toNat:Nat)=true:=⟨j,hj,h1,by rw [hpq];simp [on]⟩
    have o2:∃ q,q<es.length∧chB es c e b q=true∧on (es.getD q (0,0)) ((es.getD j (0,0)).2.toNat:Nat)=true:=⟨j,hj,h1,by rw [hpq];simp [on]⟩
    rw [if_pos (by simpa using o1),if_pos (by simpa using o2)]
   ·rw [if_neg hjc,if_neg hjc]
  have h1:=(sm_congr e1).symm.trans (h.trans (sm_congr e2))
  rw [sm_mul,sm_if,sm_if] at h1
  exact h1.symm
 have ha2:=half a (.inl rfl)
 have hb2:=half b (.inr rfl)
 have hsum:cn (chB es c e b) es.length=cn (fun j=>chB es c e b j&&c.getD j 0==a) es.length+cn (fun j=>chB es c e b j&&c.getD j 0==b) es.length:=by
  rw [← cn_add fun j _=>?_]
  ·refine cn_congr fun j hj=>?_
   rw [Bool.eq_iff_iff,Bool.or_eq_true,Bool.and_eq_true,Bool.and_eq_true,beq_iff_eq,beq_iff_eq]
   constructor
   ·intro h
    rcases (chB_in he h).2 with q|q
    ·exact .inl ⟨h,by rw [q,ha]⟩
    ·exact .inr ⟨h,q⟩
   ·rintro (h|h) <;> exact h.1
  ·rw [Bool.and_eq_true,Bool.and_eq_true,beq_iff_eq,beq_iff_eq]
   rintro ⟨h1,h2⟩
   exact hne (by rw [← h2.2,h1.2,ha])
 omega
end Go.Proofs
namespace Go.Proofs
open Go.Abs

noncomputable def nxE (es:List (Int × Int)) (p:Nat→Bool) (now v:Nat):Nat:=@dite Nat (∃ q,q<es.length∧p q=true∧q≠now∧on (es.getD q (0,0)) v=true) (Classical.propDecidable _) (fun h=>Classical.choose h) fun _=>0
noncomputable def wk (es:List (Int × Int)) (p:Nat→Bool) (e:Nat):Nat→Nat × Nat
 | 0=>(e,(es.getD e (0,0)).2.toNat)
 | t+1=>(nxE es p (wk es p e t).1 (wk es p e t).2,othN es (nxE es p (wk es p e t).1 (wk es p e t).2:Nat) (wk es p e t).2)
noncomputable def wkL (es:List (Int × Int)) (p:Nat→Bool) (e T:Nat):List Int:=(List.range T).map fun t=>((wk es p e t).1:Int)
theorem wkL_succ (es:List (Int × Int)) (p:Nat→Bool) (e T:Nat):wkL es p e (T+1)=wkL es p e T++[((wk es p e T).1:Int)]:=by
 unfold wkL;rw [List.range_succ,List.map_append];rfl
theorem wkL_length (es:List (Int × Int)) (p:Nat→Bool) (e T:Nat):(wkL es p e T).length=T:=by simp [wkL]
section
variable {es:List (Int × Int)} {p:Nat→Bool} {n:Int} {e now v q:Nat}
theorem nx_eq (h2:degB es p v=2) (hn1:now<es.length) (hn2:p now=true) (hn3:on (es.getD now (0,0)) v=true) (h1:q<es.length) (h3:p q=true) (h4:q≠now) (h5:on (es.getD q (0,0)) v=true):nxE es p now v=q:=by
 have hex:∃ q,q<es.length∧p q=true∧q≠now∧on (es.getD q (0,0)) v=true:=⟨q,h1,h3,h4,h5⟩
 have e:nxE es p now v=Classical.choose hex:=by unfold nxE;rw [dif_pos hex]
 obtain ⟨g1,g2,g3,g4⟩:=Classical.choose_spec hex
 rw [e]
 generalize Classical.choose hex=r at g1 g2 g3 g4
 apply Classical.byContradiction
 intro hne
 have:=nodup_sub (l:=[((now:Nat):Int),((q:Nat):Int),((r:Nat):Int)]) (m:=filtB (fun j=>on (es.getD j (0,0)) v&&p j) es.length) (by
  simp only [List.nodup_cons,List.mem_cons,List.not_mem_nil,or_false,not_or,List.nodup_nil,not_false_eq_true,and_true]
  omega) fun x hx=>by
   simp only [List.mem_cons,List.not_mem_nil,or_false] at hx
   rcases hx with rfl|rfl|rfl
   ·exact mem_filtB.2 ⟨_,rfl,hn1,by rw [hn3,hn2];rfl⟩
   ·exact mem_filtB.2 ⟨_,rfl,h1,by rw [h5,h3];rfl⟩
   ·exact mem_filtB.2 ⟨_,rfl,g1,by rw [g4,g2];rfl⟩
 unfold degB at h2
 rw [h2] at this
 simp at this
noncomputable def wkW (es:List (Int × Int)) (p:Nat→Bool) (e:Nat):Nat→Nat
 | 0=>(es.getD e (0,0)).1.toNat
 | t+1=>(wk es p e t).2
theorem wk_walk2 (hg:IsG n es) (h2:Deg2 n es p) (he:e<es.length) (hpe:p e=true):∀ t,t≤(compL es p e).length→Walk n es p e (es.getD e (0,0)).1.toNat (fun _=>False) (wkL es p e t) (wk es p e t).1 (wkW es p e t) (wk es p e t).2
 | 0,_=>by
  obtain ⟨d1,d2,d3,d4,d5⟩:=hg.ed.ends es[e] (List.getElem_mem he)
  rw [← getD_of (d:=(0,0)) he] at d1 d2 d3 d4 d5
  show Walk n es p e _ _ [] e (es.getD e (0,0)).1.toNat (es.getD e (0,0)).2.toNat
  refine ⟨(fun i hi=>by cases hi),List.nodup_nil,fun x=>by simp [degC],he,hpe,.refl,?_,?_,by omega,by omega,by omega,.inl ⟨rfl,rfl,rfl⟩⟩
  ·unfold on;simp only [Bool.or_eq_true,beq_iff_eq];left;omega
  ·unfold on;simp only [Bool.or_eq_true,beq_iff_eq];right;omega
 | t+1,ht=>by
  have hW:=wk_walk2 hg h2 he hpe t (by omega)
  have hend:∀ i,i<es.length→∀ x:Int,on (es.getD i (0,0)) x=true→0≤x∧x<n:=fun i hi x hx=>by
   obtain ⟨d1,d2,d3,d4,d5⟩:=hg.ed.ends es[i] (List.getElem_mem hi)
   rw [← getD_of (d:=(0,0)) hi] at d1 d2 d3 d4 d5
   unfold on at hx
   simp only [Bool.or_eq_true,beq_iff_eq] at hx
   omega
  have hnot:((wk es p e t).1:Int)∉wkL es p e t:=fun hm=>by
   have:=(hW.comp (hW.stop h2 hend (fun h=>h) (fun _ _ _ h _=>h) (.inl hm))).1
   rw [wkL_length] at this;omega
  have hvn:=hW.vn
  obtain ⟨q,q1,q2,q3,q4⟩:=other_left (now:=(wk es p e t).1) (h2 (wk es p e t).2 hvn (degB_pos hW.lt hW.pn hW.onv)) hW.lt
  have hnx:=nx_eq (h2 _ hvn (degB_pos hW.lt hW.pn hW.onv)) hW.lt hW.pn hW.onv q1 q2 q3 q4
  obtain ⟨d1,d2,d3,d4,d5⟩:=hg.ed.ends es[q] (List.getElem_mem q1)
  rw [← getD_of (d:=(0,0)) q1] at d1 d2 d3 d4 d5
  have hon:=q4
  unfold on at hon
  simp only [Bool.or_eq_true,beq_iff_eq] at hon
  have ho:(othN es (q:Int) (wk es p e t).2:Int)=(es.getD q (0,0)).1+(es.getD q (0,0)).2-(wk es p e t).2:=by unfold othN;rw [Int.toNat_natCast];omega
  rw [wkL_succ]
  have e1:(wk es p e (t+1)).1=q:=by rw [wk,hnx]
  have e2:(wk es p e (t+1)).2=othN es (q:Int) (wk es p e t).2:=by rw [wk,hnx]
  rw [e1,e2]
  show Walk n es p e _ _ _ q (wk es p e t).2 _
  refine hW.step hnot (fun h=>h) q1 q2 q3 q4 ?_ (by omega) (by omega)
  unfold on
  simp only [Bool.or_eq_true,beq_iff_eq]
  omega
theorem wk_walk (hg:IsG n es) (h2:Deg2 n es p) (he:e<es.length) (hpe:p e=true) (t:Nat) (ht:t≤(compL es p e).length):∃ a0 w,Walk n es p e a0 (fun _=>False) (wkL es p e t) (wk es p e t).1 w (wk es p e t).2:=⟨_,_,wk_walk2 hg h2 he hpe t ht⟩
theorem wk_not (hg:IsG n es) (h2:Deg2 n es p) (he:e<es.length) (hpe:p e=true) {t:Nat} (ht:t<(compL es p e).length):((wk es p e t).1:Int)∉wkL es p e t:=by
 obtain ⟨a0,w,hW⟩:=wk_walk hg h2 he hpe t (by omega)
 have hend:∀ i,i<es.length→∀ x:Int,on (es.getD i (0,0)) x=true→0≤x∧x<n:=fun i hi x hx=>by
  obtain ⟨d1,d2,d3,d4,d5⟩:=hg.ed.ends es[i] (List.getElem_mem hi)
  rw [← getD_of (d:=(0,0)) hi] at d1 d2 d3 d4 d5
  unfold on at hx
  simp only [Bool.or_eq_true,beq_iff_eq] at hx
  omega
 intro hm
 have:=(hW.comp (hW.stop h2 hend (fun h=>h) (fun _ _ _ h _=>h) (.inl hm))).1
 rw [wkL_length] at this;omega
theorem wkL_all (hg:IsG n es) (h2:Deg2 n es p) (he:e<es.length) (hpe:p e=true) (j:Nat):(j:Int)∈wkL es p e (compL es p e).length↔Rch (eAdj es p) e j:=by
 obtain ⟨a0,w,hW⟩:=wk_walk hg h2 he hpe _ (Nat.le_refl _)
 constructor
 ·intro hj
  obtain ⟨j',e1,_,_,h4,_⟩:=hW.mem _ hj
  obtain rfl:j=j':=by omega
  exact h4
 ·intro hr
  have hm:(j:Int)∈compL es p e:=mem_compL.2 ⟨j,rfl,(eRch_in hr ⟨he,hpe⟩).1,hr⟩
  refine nodup_sup (m:=compL es p e) hW.nd (fun x hx=>?_) (by rw [wkL_length];exact Nat.le_refl _) _ hm
  obtain ⟨i,rfl,h1,_,h3,_⟩:=hW.mem x hx
  exact mem_compL.2 ⟨i,rfl,h1,h3⟩
theorem wk_back (hg:IsG n es) (h2:Deg2 n es p) (he:e<es.length) (hpe:p e=true):(wk es p e (compL es p e).length).1=e:=by
 obtain ⟨T,hT⟩:∃ T,T=(compL es p e).length:=⟨_,rfl⟩
 have hW0:=wk_walk2 hg h2 he hpe 0 (by omega)
 have hW:=wk_walk2 hg h2 he hpe T (by omega)
 obtain ⟨q,q1,q2,q3,q4⟩:=other_left (now:=(wk es p e 0).1) (h2 _ hW0.vn (degB_pos hW0.lt hW0.pn hW0.onv)) hW0.lt
 have q3:q≠e:=q3
 have hT2:2≤T:=by
  have:=nodup_sub (l:=[((e:Nat):Int),(q:Int)]) (m:=compL es p e) (by simp;omega) fun x hx=>by
   simp only [List.mem_cons,List.not_mem_nil,or_false] at hx
   rcases hx with rfl|rfl
   ·exact mem_compL.2 ⟨e,rfl,he,.refl⟩
   ·exact mem_compL.2 ⟨q,rfl,q1,.step .refl ⟨q1,q2,_,hW0.onv,q4⟩⟩
  rw [← hT] at this;simpa using this
 rw [← hT]
 obtain ⟨t,rfl⟩:∃ t,T=t+1:=⟨T-1,by omega⟩
 have hWt:=wk_walk2 hg h2 he hpe t (by omega)
 have hC:((wk es p e (t+1)).1:Int)∈wkL es p e (t+1):=by rw [hT];exact (wkL_all hg h2 he hpe _).2 (by rw [← hT];exact hW.rch)
 have hm:∀ i∈wkL es p e (t+1),∃ j:Nat,i=j∧j<es.length∧p j=true:=fun i hi=>by obtain ⟨j,h1,h2,h3,_⟩:=hW.mem i hi;exact ⟨j,h1,h2,h3⟩
 have onw:on (es.getD (wk es p e (t+1)).1 (0,0)) ((wk es p e t).2:Nat)=true:=hW.onw
 have hne:(wk es p e (t+1)).1≠(wk es p e t).1:=fun h=>by
  obtain ⟨r,r1,r2,r3,r4⟩:=other_left (now:=(wk es p e t).1) (h2 _ hWt.vn (degB_pos hWt.lt hWt.pn hWt.onv)) hWt.lt
  have:=nx_eq (h2 _ hWt.vn (degB_pos hWt.lt hWt.pn hWt.onv)) hWt.lt hWt.pn hWt.onv r1 r2 r3 r4
  rw [wk,this] at h;exact r3 h
 have hd:degC es (wkL es p e (t+1)) (wk es p e t).2=2:=by
  have hle:=degC_le hm hW.nd (wk es p e t).2
  rw [h2 _ hWt.vn (degB_pos hWt.lt hWt.pn hWt.onv)] at hle
  have:2≤degC es (wkL es p e (t+1)) (wk es p e t).2:=by
   have:=nodup_sub (l:=[((wk es p e (t+1)).1:Int),((wk es p e t).1:Int)]) (m:=(wkL es p e (t+1)).filter fun i=>on (es.getD i.toNat (0,0)) (wk es p e t).2) (by simp;omega) fun x hx=>by
    rw [List.mem_filter]
    simp only [List.mem_cons,List.not_mem_nil,or_false] at hx
    rcases hx with rfl|rfl
    ·exact ⟨hC,by rw [Int.toNat_natCast];exact onw⟩
    ·exact ⟨by rw [wkL_succ];simp,by rw [Int.toNat_natCast];exact hWt.onv⟩
   unfold degC;simpa using this
  omega
 have hw:(wk es p e t).2=(es.getD e (0,0)).1.toNat:=by
  have:=hW.par (wk es p e t).2
  rw [hd] at this
  apply Classical.byContradiction
  intro hn
  have:=this.2 fun h=>hn (h.2 rfl)
  omega
 have hone:on (es.getD e (0,0)) ((wk es p e t).2:Nat)=true:=by rw [hw];exact hW0.onw
 have hec:e≠(wk es p e t).1:=fun h=>by
  refine wk_not hg h2 he hpe (t:=t) (by omega) ?_
  rw [← h]
  obtain ⟨s,rfl⟩:∃ s,t=s+1:=⟨t-1,by omega⟩
  unfold wkL
  exact List.mem_map.2 ⟨0,List.mem_range.2 (by omega),rfl⟩
 have:=nx_eq (h2 _ hWt.vn (degB_pos hWt.lt hWt.pn hWt.onv)) hWt.lt hWt.pn hWt.onv he hpe hec hone
 rw [wk];exact this
end
noncomputable def cycW (es:List (Int × Int)) (p:Nat→Bool):Nat→List (List Int)
 | 0=>[]
 | k+1=>cycW es p k++if p k=true∧cLeadB es p k=true then [wkL es p k (compL es p k).length] else []
end Go.Proofs
namespace Go.Proofs
open Go.Abs

section
variable {es:List (Int × Int)} {p:Nat→Bool} {n:Int} {l:List Int}
end
theorem IsS.short2 {l:List Int} {n:Nat} (h:IsS l n):l.length≤n:=by rw [h.filt];exact filtB_length _ _
theorem nodup_subG {α:Type} [BEq α] [LawfulBEq α] {l m:List α} (h:l.Nodup) (hs:∀ x∈l,x∈m):l.length≤m.length:=by
 induction l generalizing m with
 | nil=>simp
 | cons a l ih=>
  rw [List.nodup_cons] at h
  have ha:=hs a (by simp)
  have:=ih (m:=m.erase a) h.2 fun x hx=>by
   rw [List.mem_erase_of_ne (by rintro rfl;exact h.1 hx)];exact hs x (by simp [hx])
  rw [List.length_erase_of_mem ha] at this
  have:=List.length_pos_of_mem ha
  simp;omega
end Go.Proofs
namespace Go.Proofs
open Go.Abs

variable {l m c:List Int} {es fs:List (Int × Int)} {ls L:List (List Int)} {n:Int}

end Go.Proofs
namespace Go.Proofs
open Go.Abs

variable {H:AHeap} {v u f:Value} {l m c:List Int} {es fs:List (Int × Int)} {K:Value→AHeap→Prop}

theorem u64_sum {a b:Nat} (h:a+b<2^64):IntKind.u64.wrap (((a:Nat):Int)+((b:Nat):Int))=((a+b:Nat):Int):=by
 rw [← Int.natCast_add,u64_nat h]
theorem onesCount_ok {s:Nat} (hs:s<2^64) (k:K (.int .i64 (popc s 64:Nat)) H):AC Tryz.prog T0 139 [.int .u64 (s:Nat)] H K:=by
 have d64:∀ a k:Nat,a<2^64→a/k<2^64:=fun a k h=>Nat.lt_of_le_of_lt (Nat.div_le_self _ _) h
 apply F139.ac
 unfold F139.B8 F139.B7
 refine ⟨by decide,?_⟩
 have ma:msk 85 8=6148914691236517205:=msk_a
 have mb:msk 51 8=3689348814741910323:=msk_b
 have mc:msk 15 8=1085102592571150095:=msk_c
 have la:∀ x,x&&&msk 85 8≤6148914691236517205:=fun x=>by rw [← ma];exact Nat.and_le_right
 have lb:∀ x,x&&&msk 51 8≤3689348814741910323:=fun x=>by rw [← mb];exact Nat.and_le_right
 rw [shr_nat,show min (Int.toNat 1) 64=1 from rfl,show (6148914691236517205:Int)=((msk 85 8:Nat):Int) by rw [ma];rfl,bits_and (d64 _ _ hs) (by rw [ma];decide),bits_and hs (by rw [ma];decide),
  u64_sum (by have:=la (s/2^1);have:=la s;omega),show (s/2^1&&&msk 85 8)+(s&&&msk 85 8)=stA 8 s from rfl]
 have hA:stA 8 s<2^64:=by unfold stA;have:=la (s/2);have:=la s;omega
 unfold F139.B6
 refine ⟨by decide,?_⟩
 rw [shr_nat,show min (Int.toNat 2) 64=2 from rfl,show (3689348814741910323:Int)=((msk 51 8:Nat):Int) by rw [mb];rfl,bits_and (d64 _ _ hA) (by rw [mb];decide),bits_and hA (by rw [mb];decide),
  u64_sum (by have:=lb (stA 8 s/2^2);have:=lb (stA 8 s);omega),show (stA 8 s/2^2&&&msk 51 8)+(stA 8 s&&&msk 51 8)=byts 8 s from rfl]
 have hB:byts 8 s≤7378697629483820646:=by unfold byts stB;have:=lb (stA 8 s/4);have:=lb (stA 8 s);omega
 unfold F139.B5
 refine ⟨by decide,?_⟩
 rw [shr_nat,show min (Int.toNat 4) 64=4 from rfl,show (1085102592571150095:Int)=((msk 15 8:Nat):Int) by rw [mc];rfl,u64_sum (by omega),bits_and (by omega) (by rw [mc];decide),
  show (byts 8 s/2^4+byts 8 s)&&&msk 15 8=pops 8 s from rfl]
 have hC:=pops_le (x:=s)
 obtain ⟨a,ha⟩:∃ a,a=pops 8 s:=⟨_,rfl⟩
 rw [← ha] at hC ⊢
 unfold F139.B4
 refine ⟨by decide,?_⟩
 rw [shr_nat,show min (Int.toNat 8) 64=8 from rfl,u64_sum (by omega)]
 obtain ⟨b,hb⟩:∃ b,b=a+a/2^8:=⟨_,rfl⟩
 rw [← hb]
 unfold F139.B3
 refine ⟨by decide,?_⟩
 rw [shr_nat,show min (Int.toNat 16) 64=16 from rfl,u64_sum (by omega)]
 obtain ⟨c,hc⟩:∃ c,c=b+b/2^16:=⟨_,rfl⟩
 rw [← hc]
 unfold F139.B2
 refine ⟨by decide,?_⟩
 rw [shr_nat,show min (Int.toNat 32) 64=32 from rfl,u64_sum (by omega)]
 obtain ⟨d,hd⟩:∃ d,d=c+c/2^32:=⟨_,rfl⟩
 rw [← hd]
 unfold F139.B1
 have hdl:d<2^62:=by omega
 have hp:=pops_sum ha hb hc hd
 have e1:IntKind.i64.wrap ((d:Nat):Int)=((d:Nat):Int):=wrap_id (by omega) (by omega)
 rw [e1,bv_nat,show (127:Int)=((127:Nat):Int) from rfl,bv_nat,BitVec.toNat_and,BitVec.toNat_ofNat,BitVec.toNat_ofNat,Nat.mod_eq_of_lt (by omega),Nat.mod_eq_of_lt (by decide),show (127:Nat)=2^7-1 from rfl,Nat.and_two_pow_sub_one_eq_mod,
  show d%2^7=popc s 64 from hp]
 have:popc s 64≤64:=bitsTo_length s 64
 rw [wrap_id (by omega) (by omega)]
 exact k
theorem size_ok {s:Nat} (hs:s<2^64) (k:K (.int .i64 (popc s 64:Nat)) H):AC Tryz.prog T0 74 [.int .u64 (s:Nat)] H K:=by
 apply F74.ac
 unfold F74.B2 F74.B1
 exact onesCount_ok hs (asI_mk k)
end Go.Proofs
namespace Go.Proofs
open Go.Abs

variable {H:AHeap} {v u f:Value} {l m c:List Int} {es fs:List (Int × Int)} {K:Value→AHeap→Prop}

end Go.Proofs
namespace Go.Proofs
open Go.Abs

variable {es fs gs:List (Int × Int)} {l D:List Int} {n:Int} {p:Nat→Bool}

noncomputable def leadL (fs:List (Int × Int)) (n:Nat):List Nat:=(List.range n).filter (vLeadB fs)
theorem leadL_length (fs:List (Int × Int)) (n:Nat):(leadL fs n).length=(sidesL fs n).length:=by
 unfold leadL sidesL sidesTo;rw [List.length_map]
theorem leadL_get {n j:Nat} (hj:j<(leadL fs n).length):(sidesL fs n).getD j []=sideL fs n (leadL fs n)[j]∧(leadL fs n)[j]<n∧vLeadB fs (leadL fs n)[j]=true:=by
 have hm:=List.getElem_mem hj
 have hm2:(leadL fs n)[j]∈(List.range n).filter (vLeadB fs):=hm
 rw [List.mem_filter,List.mem_range] at hm2
 refine ⟨?_,hm2.1,hm2.2⟩
 unfold sidesL sidesTo
 have hj':j<(((List.range n).filter (vLeadB fs)).map (sideL fs n)).length:=by rw [List.length_map];exact hj
 rw [List.getD,List.getElem?_eq_getElem hj',Option.getD_some,List.getElem_map];rfl
end Go.Proofs
namespace Go.Proofs
open Go.Abs

variable {l m c:List Int} {es fs:List (Int × Int)} {ls L:List (List Int)} {n:Int}

theorem ptL_len:∀ (E c:List Int),(∀ x∈E,0≤x)→(ptL es E c).length≤3^E.length
 | [],c,_=>by simp [ptL]
 | i::E,c,h=>by
  have ih:=fun d=>ptL_len E d fun x hx=>h x (by simp [hx])
  obtain ⟨j,rfl⟩:∃ j:Nat,i=j:=⟨i.toNat,by have:=h i (by simp);omega⟩
  rw [List.length_cons,Nat.pow_succ]
  by_cases hc:c.getD j 0=-1
  ·rw [ptL_cons hc]
   have key:∀ t,(ptTo es E j c t).length≤t*3^E.length:=by
    intro t
    induction t with
    | zero=>simp [ptTo]
    | succ t iht=>
     rw [ptTo_succ,List.length_append,Nat.add_mul,Nat.one_mul]
     have h1:=ih (c.set j (t:Int))
     have h2:(if clashB es c j (t:Int) then [] else ptL es E (c.set j (t:Int))).length≤3^E.length:=by
      split
      ·exact Nat.zero_le _
      ·exact h1
     exact Nat.add_le_add iht h2
   have:=key 3
   rw [Nat.mul_comm];exact this
  ·rw [ptL_skip hc]
   exact Nat.le_trans (ih c) (Nat.le_mul_of_pos_right _ (by decide))
theorem mem_ptL {c:List Int} (hcl:c.length=es.length):∀ (E d:List Int),d.length=es.length→E.Nodup→(∀ i∈E,0≤i∧i<es.length∧d.getD i.toNat 0=-1∧0≤c.getD i.toNat 0∧c.getD i.toNat 0≤2)→(∀ j:Nat,j<es.length→(j:Int)∉E→d.getD j 0=c.getD j 0)→
 (∀ i j:Nat,i<es.length→j<es.length→i≠j→share (es.getD i (0,0)) (es.getD j (0,0))→0≤c.getD i 0→c.getD i 0≠c.getD j 0)→c∈ptL es E d
 | [],d,hd,_,_,ho,_=>by
  rw [ptL,List.mem_singleton]
  exact List.ext_getElem (by omega) fun i h1 h2=>by
   have:=ho i (by omega) (by simp)
   rw [getD_of h2,getD_of h1] at this
   exact this.symm
 | i::E,d,hd,hn,hE,ho,hs=>by
  obtain ⟨h1,h2,h3,h4,h5⟩:=hE i (by simp)
  obtain ⟨j,rfl⟩:∃ j:Nat,i=j:=⟨i.toNat,by omega⟩
  rw [Int.toNat_natCast] at h3 h4 h5
  rw [List.nodup_cons] at hn
  rw [ptL_cons h3]
  obtain ⟨x,hx⟩:∃ x:Nat,c.getD j 0=x:=⟨(c.getD j 0).toNat,by omega⟩
  unfold ptTo
  rw [List.mem_flatMap]
  refine ⟨x,List.mem_range.2 (by omega),?_⟩
  have hcl':clashB es d j (x:Int)=false:=by
   cases hb:clashB es d j (x:Int) with
   | false=>rfl
   | true=>
    obtain ⟨q,q1,q2,q3⟩:=clashB_iff.1 hb
    have hqj:q≠j:=fun e=>by subst e;omega
    have hqE:(q:Int)∉((j:Int)::E):=fun hm=>by
     have:=(hE (q:Int) hm).2.2.1
     rw [Int.toNat_natCast] at this;omega
    have hqc:=ho q (by omega) hqE
    have:=hs j q (by omega) (by omega) (fun e=>hqj e.symm) (share_symm q3) h4
    omega
  rw [hcl']
  simp only [Bool.false_eq_true,if_false]
  refine mem_ptL hcl E (d.set j (x:Int)) (by simpa using hd) hn.2 (fun i hi=>?_) (fun q hq hqE=>?_) hs
  ·obtain ⟨g1,g2,g3,g4,g5⟩:=hE i (by simp [hi])
   refine ⟨g1,g2,?_,g4,g5⟩
   have:j≠i.toNat:=fun e=>by
    have:i=(j:Int):=by omega
    subst this;exact hn.1 hi
   rw [getD_set_ne this];exact g3
  ·by_cases e:j=q
   ·subst e;rw [getD_set_self (by omega)];exact hx.symm
   ·rw [getD_set_ne e]
    refine ho q hq fun hm=>?_
    rcases List.mem_cons.1 hm with h|h
    ·omega
    ·exact hqE h
noncomputable def partB (es:List (Int × Int)) (v i:Nat):Bool:=rchB (vAdj es) v (es.getD i (0,0)).1.toNat
noncomputable def partE (es:List (Int × Int)) (v:Nat):List Int:=filtB (partB es v) es.length
noncomputable def partL (es:List (Int × Int)) (n:Nat):List (List Int):=(leadL es n).map (partE es)
noncomputable def blank (es:List (Int × Int)):List Int:=List.replicate es.length (-1)
noncomputable def partN (es:List (Int × Int)) (E:List Int):Nat:=(ptL es E (blank es)).length
def mulN:List Nat→Nat
 | []=>1
 | x::l=>x*mulN l
theorem mulN_snoc (x:Nat):∀ l,mulN (l++[x])=mulN l*x
 | []=>by simp [mulN]
 | y::l=>by rw [List.cons_append,mulN,mulN,mulN_snoc x l,Nat.mul_assoc]
noncomputable def colTo (es:List (Int × Int)) (n k:Nat):Nat:=mulN (((partL es n).take k).map (partN es))
noncomputable def colN (es:List (Int × Int)) (n:Nat):Nat:=mulN ((partL es n).map (partN es))
theorem colTo_succ {n k:Nat} (h:k<(partL es n).length):colTo es n (k+1)=colTo es n k*partN es ((partL es n).getD k []):=by
 unfold colTo
 rw [List.take_succ_eq_append_getElem h,List.map_append,← getD_of (d:=[]) h]
 exact mulN_snoc _ _
theorem colTo_all (n:Nat):colTo es n (partL es n).length=colN es n:=by
 unfold colTo colN;rw [List.take_length]
theorem partL_length (n:Nat):(partL es n).length=(sidesL es n).length:=by
 unfold partL;rw [List.length_map,leadL_length]
theorem partL_get {n k:Nat} (h:k<(leadL es n).length):(partL es n).getD k []=partE es (leadL es n)[k]:=by
 unfold partL
 rw [getD_of (by rw [List.length_map];exact h),List.getElem_map]
theorem partE_nodup (v:Nat):(partE es v).Nodup:=filtB_nodup _ _
theorem partE_rng {v:Nat} {x:Int} (h:x∈partE es v):0≤x∧x<es.length:=by
 obtain ⟨j,rfl,hj,_⟩:=mem_filtB.1 h;omega
theorem mulN_pow {b:Nat} (hb:0<b) {f:List Int→Nat}:∀ (l:List (List Int)),(∀ E∈l,f E≤b^E.length)→mulN (l.map f)≤b^(l.map List.length).sum
 | [],_=>by simp [mulN]
 | E::l,h=>by
  rw [List.map_cons,mulN,List.map_cons,List.sum_cons,Nat.pow_add]
  exact Nat.mul_le_mul (h E (by simp)) (mulN_pow hb l fun x hx=>h x (by simp [hx]))
theorem part_tot (hg:IsG n es):((partL es n.toNat).map List.length).sum=es.length:=by
 have hto:∀ k,(((List.range k).filter (vLeadB es)).map fun v=>(partE es v).length).sum=sm (fun v=>if vLeadB es v then (partE es v).length else 0) k:=by
  intro k
  induction k with
  | zero=>rfl
  | succ k ih=>
   rw [List.range_succ,List.filter_append,List.map_append,List.sum_append,ih,sm]
   cases hl:vLeadB es k <;> simp [hl]
 have e0:((partL es n.toNat).map List.length).sum=sm (fun v=>if vLeadB es v then (partE es v).length else 0) n.toNat:=by
  rw [← hto]
  unfold partL leadL
  rw [List.map_map];rfl
 rw [e0]
 have e1:∀ v,v<n.toNat→(if vLeadB es v then (partE es v).length else 0)=sm (fun w=>if vLeadB es v&&partB es v w then 1 else 0) es.length:=fun v _=>by
  cases hl:vLeadB es v with
  | false=>simp [sm_zero]
  | true=>
   simp only [if_true,Bool.true_and]
   rw [sm_if]
   unfold partE
   exact cn_filt _ _
 rw [sm_congr e1,sm_swap]
 have e2:∀ w,w<es.length→sm (fun v=>if vLeadB es v&&partB es v w then 1 else 0) n.toNat=1:=fun w hw=>by
  obtain ⟨p,q,hpq,_,hp,hq⟩:=hg.endsIn.get w hw
  obtain ⟨a,a1,a2,a3⟩:=lead_exists (fs:=es) p
  refine Eq.trans (sm_congr fun v _=>?_) (sm_one (a:=a) (c:=1) (k:=n.toNat) (by omega))
  unfold partB
  rw [hpq,Int.toNat_natCast]
  by_cases hv:v=a
  ·subst hv;rw [a2,rchB_iff.2 a3];simp
  ·rw [if_neg hv,if_neg]
   rw [Bool.and_eq_true,rchB_iff]
   rintro ⟨h1,h2⟩
   exact hv (lead_eq h1 a2 (h2.trans (a3.symm vAdj_symm)))
 rw [sm_congr e2]
 have e3:∀ k,sm (fun _=>1) k=k:=fun k=>by
  induction k with
  | zero=>rfl
  | succ k ih=>rw [sm,ih]
 exact e3 _
theorem sum_take (l:List Nat) (k:Nat):(l.take k).sum≤l.sum:=by
 conv=>rhs;rw [← List.take_append_drop k l]
 rw [List.sum_append];omega
theorem colTo_le (hg:IsG n es) (k:Nat):colTo es n.toNat k≤3^30:=by
 have h30:es.length≤30:=by have:=hg.ed.len;have:=hg.ed.hi;omega
 have h1:=mulN_pow (b:=3) (by decide) (f:=partN es) ((partL es n.toNat).take k) fun E hE=>by
  have hE:=List.mem_of_mem_take hE
  unfold partL at hE
  obtain ⟨v,_,rfl⟩:=List.mem_map.1 hE
  exact ptL_len _ _ fun x hx=>(partE_rng hx).1
 refine Nat.le_trans h1 (Nat.pow_le_pow_right (by decide) ?_)
 rw [List.map_take]
 exact Nat.le_trans (sum_take _ _) (by rw [part_tot hg];exact h30)
def restr (E c:List Int):List Int:=(List.range c.length).map fun j:Nat=>if (j:Int)∈E then c.getD j 0 else -1
theorem restr_get (E c:List Int) {j:Nat} (h:j<c.length):(restr E c).getD j 0=if (j:Int)∈E then c.getD j 0 else -1:=by
 unfold restr;rw [getD_of (by simpa using h)];simp
theorem restr_mem (hc:IsC es c) {v:Nat}:restr (partE es v) c∈ptL es (partE es v) (blank es):=by
 have hl:(restr (partE es v) c).length=es.length:=by unfold restr;rw [List.length_map,List.length_range,hc.len]
 have hcl:=hc.len
 refine mem_ptL hl _ _ (by unfold blank;simp) (partE_nodup v) (fun i hi=>?_) (fun j hj hn=>?_) (fun i j hi hj hij hs h0=>?_)
 ·obtain ⟨r1,r2⟩:=partE_rng hi
  obtain ⟨q,rfl⟩:∃ q:Nat,i=q:=⟨i.toNat,by omega⟩
  rw [Int.toNat_natCast,restr_get _ _ (by omega),if_pos hi]
  have:=hc.get q
  refine ⟨r1,r2,?_,this.1,this.2⟩
  unfold blank
  simp [List.getD,show q<es.length by omega]
 ·rw [restr_get _ _ (by omega),if_neg hn]
  unfold blank
  simp [List.getD,hj]
 ·rw [restr_get _ _ (by omega)] at h0 ⊢
  rw [restr_get _ _ (by omega)]
  have hr:=hc.get j
  have hi':=hc.get i
  have hne:c.getD i 0≠c.getD j 0:=by
   rcases Nat.lt_or_gt_of_ne hij with h|h
   ·exact hc.col j hj i h hs
   ·exact fun e=>hc.col i hi j h (share_symm hs) e.symm
  split at h0
  ·rw [if_pos (by assumption)]
   split
   ·exact hne
   ·omega
  ·omega
end Go.Proofs
namespace Go.Proofs
open Go.Abs

theorem fv_left {s n:Nat} (h:left s n=0):fv s n=n:=by
 rcases Nat.lt_or_ge (fv s n) n with h'|h'
 ·have:=unseen_ins (S:=fun j=>s.testBit j) h' (fv_at h')
  unfold left at h;omega
 ·have:=fv_le s n;omega
end Go.Proofs
namespace Go.Proofs
open Go.Abs

variable {es:List (Int × Int)} {l:List Int} {n:Int}

theorem edge_ends (hg:IsG n es) {i:Nat} (hi:i<es.length):∃ a b:Nat,es.getD i (0,0)=((a:Int),(b:Int))∧a<b∧(b:Int)<n:=by
 obtain ⟨d1,d2,d3,d4,d5⟩:=hg.ed.ends es[i] (List.getElem_mem hi)
 have up:=hg.up es[i] (List.getElem_mem hi)
 rw [← getD_of (d:=(0,0)) hi] at d1 d2 d3 d4 d5 up
 refine ⟨(es.getD i (0,0)).1.toNat,(es.getD i (0,0)).2.toNat,?_,by omega,by omega⟩
 rw [Int.toNat_of_nonneg d1,Int.toNat_of_nonneg d3]
theorem on_ab {a b x:Nat}:on ((a:Int),(b:Int)) (x:Int)=true↔x=a∨x=b:=by
 unfold on
 simp only [Bool.or_eq_true,beq_iff_eq]
 omega
theorem degC_count (hg:IsG n es) (x:Nat):∀ L:List Int,(∀ i∈L,0≤i∧i<es.length)→degC es L x=(ends es L).count (x:Int)
 | [],_=>rfl
 | i::L,hL=>by
  have hi:=hL i (by simp)
  obtain ⟨k,rfl⟩:∃ k:Nat,i=k:=⟨i.toNat,by omega⟩
  obtain ⟨a,b,e1,e2,e3⟩:=edge_ends hg (i:=k) (by omega)
  rw [degC_cons,degC_count hg x L fun j hj=>hL j (by simp [hj])]
  have:ends es ((k:Int)::L)=(a:Int)::(b:Int)::ends es L:=by
   unfold ends;rw [List.flatMap_cons,Int.toNat_natCast,e1];rfl
  rw [this,List.count_cons,List.count_cons,e1]
  by_cases h1:x=a
  ·rw [if_pos (on_ab.2 (.inl h1))]
   have h2:¬ x=b:=by omega
   simp [h1];omega
  ·by_cases h2:x=b
   ·rw [if_pos (on_ab.2 (.inr h2))]
    simp [h2];omega
   ·rw [if_neg fun h=>(on_ab.1 h).elim h1 h2]
    have g1:¬ (a:Int)=(x:Int):=by omega
    have g2:¬ (b:Int)=(x:Int):=by omega
    simp [g1,g2]
theorem mem_ends (hg:IsG n es) (hr:∀ i∈l,0≤i∧i<es.length) {y:Int} (hy:y∈ends es l):0≤y∧y<n:=by
 unfold ends at hy
 obtain ⟨i,hi,hy⟩:=List.mem_flatMap.1 hy
 have h:=hr i hi
 obtain ⟨a,b,e1,e2,e3⟩:=edge_ends hg (i:=i.toNat) (by omega)
 rw [e1] at hy
 simp only [List.mem_cons,List.not_mem_nil,or_false] at hy
 omega
theorem one_isM (hg:IsG n es) (hs:IsS l es.length) (ho:OneAt n es l):IsM n es l:=by
 have hr:=hs.range
 have hnd:(ends es l).Nodup:=by
  rw [List.nodup_iff_count]
  intro y
  by_cases hy:y∈ends es l
  ·have:=mem_ends hg hr hy
   obtain ⟨x,rfl⟩:∃ x:Nat,y=x:=⟨y.toNat,by omega⟩
   rw [← degC_count hg x l hr,ho x (by omega)]
   exact Nat.le_refl _
  ·rw [List.count_eq_zero.2 hy];omega
 have hup:(upto n.toNat).Nodup:=by
  unfold upto List.Nodup
  rw [List.pairwise_map]
  exact List.nodup_range.imp fun h e=>h (Int.ofNat.inj e)
 have h1:(ends es l).length≤n.toNat:=by
  have:=nodup_sub (m:=upto n.toNat) hnd fun y hy=>by
   have:=mem_ends hg hr hy
   unfold upto
   exact List.mem_map.2 ⟨y.toNat,List.mem_range.2 (by omega),Int.toNat_of_nonneg this.1⟩
  unfold upto at this
  rw [List.length_map,List.length_range] at this
  exact this
 have h2:n.toNat≤(ends es l).length:=by
  have:=nodup_sub (m:=ends es l) hup fun y hy=>by
   unfold upto at hy
   obtain ⟨x,hx,rfl⟩:=List.mem_map.1 hy
   rw [List.mem_range] at hx
   have h:=ho x (by omega)
   rw [degC_count hg x l hr] at h
   show (x:Int)∈ends es l
   exact List.count_pos_iff.1 (by omega)
  unfold upto at this
  rw [List.length_map,List.length_range] at this
  exact this
 have n0:=hg.ed.lo
 refine ⟨hs,hnd,?_⟩
 rw [ends_length] at h1 h2
 omega
theorem degC_pos {x:Nat} {y:Int} (hy:y∈l) (h:on (es.getD y.toNat (0,0)) x=true):0<degC es l x:=by
 unfold degC
 exact List.length_pos_of_mem (List.mem_filter.2 ⟨hy,h⟩)
theorem matL_all (hg:IsG n es):∀ {k s:Nat} {l:List Int},Asc l→(∀ x∈l,0≤x∧x<es.length)→(∀ x:Nat,x<n.toNat→degC es l x=if s.testBit x then 0 else 1)→left s n.toNat≤2*k→l∈matL es n.toNat k s:=by
 intro k
 induction k with
 | zero=>
  intro s l ha hr hd hk
  have he:fv s n.toNat=n.toNat:=fv_left (by omega)
  rw [matL_end he,List.mem_singleton]
  cases l with
  | nil=>rfl
  | cons y l=>
   have hy:=hr y (by simp)
   obtain ⟨a,b,e1,e2,e3⟩:=edge_ends hg (i:=y.toNat) (by omega)
   have:=degC_pos (l:=y::l) (y:=y) (x:=a) (by simp) (by rw [e1];exact on_ab.2 (.inl rfl))
   rw [hd a (by omega),fv_below (s:=s) (n:=n.toNat) (j:=a) (by omega)] at this
   simp at this
 | succ k ih=>
  intro s l ha hr hd hk
  by_cases he:fv s n.toNat=n.toNat
  ·rw [matL_end he,List.mem_singleton]
   cases l with
   | nil=>rfl
   | cons y l=>
    have hy:=hr y (by simp)
    obtain ⟨a,b,e1,e2,e3⟩:=edge_ends hg (i:=y.toNat) (by omega)
    have:=degC_pos (l:=y::l) (y:=y) (x:=a) (by simp) (by rw [e1];exact on_ab.2 (.inl rfl))
    rw [hd a (by omega),fv_below (s:=s) (n:=n.toNat) (j:=a) (by omega)] at this
    simp at this
  ·have hlt:fv s n.toNat<n.toNat:=by have:=fv_le s n.toNat;omega
   have hvb:=fv_at hlt
   have h1:=hd _ hlt
   rw [hvb] at h1
   have h1:degC es l (fv s n.toNat)=1:=h1
   unfold degC at h1
   obtain ⟨e,hfe⟩:=List.length_eq_one_iff.1 h1
   have hem:e∈l∧on (es.getD e.toNat (0,0)) (fv s n.toNat)=true:=by
    have:e∈l.filter fun i=>on (es.getD i.toNat (0,0)) (fv s n.toNat):=by rw [hfe];simp
    exact List.mem_filter.1 this
   have hre:=hr e hem.1
   obtain ⟨i,rfl⟩:∃ i:Nat,e=i:=⟨e.toNat,by omega⟩
   rw [Int.toNat_natCast] at hem
   have ho:=hem.2
   have hi:i<es.length:=by omega
   have cov:∀ y∈l,∀ x:Nat,x<n.toNat→on (es.getD y.toNat (0,0)) x=true→s.testBit x=false:=fun y hy x hx hon=>by
    have:=degC_pos hy hon
    rw [hd x hx] at this
    cases hb:s.testBit x with
    | false=>rfl
    | true=>rw [hb] at this;simp at this
   have hw:(othN es (i:Int) (fv s n.toNat):Int)=(es.getD i (0,0)).1+(es.getD i (0,0)).2-fv s n.toNat:=by
    obtain ⟨a,b,e1,e2,e3⟩:=edge_ends hg hi
    rw [e1] at ho
    have:=on_ab.1 ho
    unfold othN;rw [Int.toNat_natCast,e1]
    show (((a:Int)+(b:Int)-(fv s n.toNat:Int)).toNat:Int)=(a:Int)+(b:Int)-(fv s n.toNat:Int)
    omega
   obtain ⟨w,hww⟩:∃ w,w=othN es (i:Int) (fv s n.toNat):=⟨_,rfl⟩
   rw [← hww] at hw
   have hwon:on (es.getD i (0,0)) w=true∧w<n.toNat:=by
    obtain ⟨a,b,e1,e2,e3⟩:=edge_ends hg hi
    rw [e1] at ho hw ⊢
    have:=on_ab.1 ho
    have hw:(w:Int)=(a:Int)+(b:Int)-(fv s n.toNat:Int):=hw
    exact ⟨on_ab.2 (by omega),by omega⟩
   have hb:s.testBit w=false:=cov i hem.1 w hwon.2 (by rw [Int.toNat_natCast];exact hwon.1)
   have fe:=firstE hg hi ho hw hb
   have hvw:=fe.vw
   obtain ⟨l',rfl⟩:∃ l',l=(i:Int)::l':=by
    cases l with
    | nil=>cases hem.1
    | cons y l'=>
     refine ⟨l',?_⟩
     congr 1
     apply Classical.byContradiction
     intro hne
     have hyi:y<(i:Int):=by
      rcases List.mem_cons.1 hem.1 with h|h
      ·exact absurd h.symm hne
      ·unfold Asc at ha
       exact (List.pairwise_cons.1 ha).1 _ h
     have hry:=hr y (by simp)
     obtain ⟨a,b,e1,e2,e3⟩:=edge_ends hg (i:=y.toNat) (by omega)
     have hle:=srt_le hg.srt (i:=y.toNat) (j:=i) (by omega) hi
     rw [fe.fst,e1] at hle
     have hle:(a:Int)≤(fv s n.toNat:Int):=hle
     have hca:=cov y (by simp) a (by omega) (by rw [e1];exact on_ab.2 (.inl rfl))
     have hav:a=fv s n.toNat:=by
      apply Classical.byContradiction
      intro hn
      rw [fv_below (s:=s) (n:=n.toNat) (j:=a) (by omega)] at hca
      cases hca
     have:y∈((y::l').filter fun i=>on (es.getD i.toNat (0,0)) (fv s n.toNat)):=List.mem_filter.2 ⟨by simp,by rw [e1];exact on_ab.2 (.inl hav.symm)⟩
     rw [hfe,List.mem_singleton] at this
     exact hne this
   unfold matL
   rw [if_neg he,List.mem_flatMap]
   refine ⟨i,mem_atL.2 ⟨i,rfl,hi,ho⟩,?_⟩
   rw [← hww,if_neg (by rw [hb];simp),List.mem_map]
   refine ⟨l',?_,rfl⟩
   have ha':Asc l':=by unfold Asc at ha ⊢;exact (List.pairwise_cons.1 ha).2
   have hl2:=left_two (s:=s) hlt fe.wn hvb hb (by omega)
   refine ih ha' (fun x hx=>hr x (by simp [hx])) (fun x hx=>?_) (by omega)
   have hdx:=hd x hx
   rw [degC_cons] at hdx
   have hon:on (es.getD i (0,0)) x=true↔x=fv s n.toNat∨x=w:=by
    have:=fe.fst;have:=fe.snd
    unfold on
    simp only [Bool.or_eq_true,beq_iff_eq]
    omega
   rw [Nat.testBit_or,Nat.testBit_or,Nat.testBit_two_pow,Nat.testBit_two_pow]
   by_cases h1:x=fv s n.toNat
   ·rw [if_pos (hon.2 (.inl h1)),h1,hvb] at hdx
    rw [h1];simp at hdx ⊢;exact hdx
   ·by_cases h2:x=w
    ·rw [if_pos (hon.2 (.inr h2)),h2,hb] at hdx
     rw [h2];simp at hdx ⊢;exact hdx
    ·rw [if_neg fun h=>(hon.1 h).elim h1 h2] at hdx
     rw [decide_eq_false fun e=>h1 e.symm,decide_eq_false fun e=>h2 e.symm]
     simpa using hdx
theorem mats_all (hg:IsG n es) (hs:IsS l es.length) (ho:OneAt n es l):l∈matL es n.toNat 10 0:=by
 have n0:=hg.ed.lo;have n1:=hg.ed.hi
 refine matL_all hg hs.asc hs.range (fun x hx=>?_) ?_
 ·rw [ho x (by omega)];simp
 ·have:=unseen_le (fun j=>Nat.testBit 0 j) n.toNat
  unfold left;omega
end Go.Proofs
