/- Contracts and plain mathematics for a law, merged. -/
import Derived.DeepKeys3
import Derived.Test.YtngacbdogjmpaaaGreatX36Q2
set_option linter.unusedVariables false
set_option linter.unusedSimpArgs false
set_option maxRecDepth 100000
namespace Go.Proofs
open Go.Abs

variable {H G:AHeap} {v u f:Value} {l m c:List Int} {es fs:List (Int × Int)} {K:Value→AHeap→Prop} {A:Nat→Prop} {B:Nat} {ls:List (List Int)}

theorem znX {es:List (Int × Int)} {p:Nat→Bool} {l:List Int} (hl:l=filtB p es.length) {e:Nat} (he:e<es.length∧p e=true):l.filter (fun y=>rchB (eAdj es p) e y.toNat)=compL es p e:=by
 have hasc:Asc l:=by rw [hl];exact zaL _ _
 refine Asc.ext (List.Pairwise.filter _ hasc) (zim e) fun x=>?_
 rw [List.mem_filter,zaU]
 constructor
 ·rintro ⟨h1,h2⟩
  rw [hl] at h1
  obtain ⟨j,rfl,h3,_⟩:=zar.1 h1
  exact ⟨j,rfl,h3,zaE.1 h2⟩
 ·rintro ⟨j,rfl,h1,h2⟩
  refine ⟨?_,zaE.2 h2⟩
  rw [hl]
  exact zar.2 ⟨j,rfl,h1,(zcd h2 he).2⟩
theorem znM {es:List (Int × Int)} {p:Nat→Bool} {l:List Int} (hl:l=filtB p es.length) {t e:Nat} (ht:t<l.length) (he:l[t]=(e:Int)) (hlead:cLeadB es p e=true):(l.take t).filter (fun y=>rchB (eAdj es p) e y.toNat)=[]:=by
 have hasc:Asc l:=by rw [hl];exact zaL _ _
 have hm:∀ x,x∈l↔∃ j:Nat,x=j∧j<es.length∧p j=true:=fun x=>by rw [hl];exact zar
 rw [List.filter_eq_nil_iff]
 intro y hy hr
 rw [zk2 hasc ht] at hy
 obtain ⟨j,rfl,h1,h2⟩:=(hm y).1 hy.1
 obtain ⟨e',h3,h4,h5⟩:=(hm _).1 (List.getElem_mem ht)
 obtain rfl:e=e':=by omega
 exact zaK.1 hlead j (by omega) h2 (zch (zaE.1 hr) ⟨h4,h5⟩)
theorem zmj {q:Int→Bool} {l:List Int} {k:Nat} (h:k<l.length):(l.take (k+1)).filter q=(l.take k).filter q++if q l[k] then [l[k]] else []:=by
 rw [List.take_succ_eq_append_getElem h,List.filter_append]
 congr 1
 cases hq:q l[k] <;> simp [hq]
theorem zgf {n:Int} (h:Edges H v es) (n0:0<n) (n1:n≤1000) (h30:es.length≤2000) (hend:∀ e,e<es.length→0≤(es.getD e (0,0)).1∧(es.getD e (0,0)).1<n∧0≤(es.getD e (0,0)).2∧(es.getD e (0,0)).2<n) (hc:Ints H u l) (hs:IsS l es.length)
 (k:∀ v' G,H.le G→RowsF (fun b=>H.length≤b) G.length G v' (cycOf es (bitB l) l)→K v' G):AC Tryz.prog T0 51 [.agg ⟨[.int .i64 n,v]⟩,u] H K:=by
 have hll:=hs.short
 have hsr:∀ x∈l,0≤x∧x<es.length:=hs.range
 obtain ⟨p,hp⟩:∃ p,p=bitB l:=⟨_,rfl⟩
 have hl:=hs.filt
 rw [← hp] at hl k
 have hmem:∀ x,x∈l↔∃ j:Nat,x=j∧j<es.length∧p j=true:=fun x=>by rw [hl];exact zar
 have hat:∀ i (hi:i<l.length),∃ e:Nat,l[i]=(e:Int)∧e<es.length∧p e=true:=fun i hi=>(hmem _).1 (List.getElem_mem hi)
 apply F51.ac
 unfold F51.B23
 refine zaf (zak (zah h)) fun H1 l1 n1' o1=>?_
 unfold F51.B22
 refine zaf rfl fun H2 l2 n2 o2=>?_
 unfold F51.B21 F51.L17
 refine ⟨fun x1 x2 x5 x6 G=>u=x1∧H.length=x2∧H1.le G∧∃ i:Nat,x6=i∧i≤l.length∧Fresh H1.length G x5 66 2 (LE (keptL es (l.take i))),fun _ _ _ x6 _=>l.length-x6.toNat,⟨rfl,rfl,l2,0,rfl,by omega,.inr ⟨_,0,Nat.le_refl _,rfl,o2,rfl⟩⟩,?_⟩
 rintro x1 x2 x5 x6 Gk ⟨rfl,rfl,hGk,i,rfl,hi,hF⟩
 have lGk:=AHeap.le_trans l1 hGk
 have oGk:=o1.le hGk
 unfold F51.B20
 refine (hc.le lGk).len (zaa (fun hb=>?_) fun hb=>?_)
 ·have hlt:i<l.length:=by have:=of_decide_eq_true hb;omega
  have hx:=hsr l[i] (List.getElem_mem hlt)
  unfold F51.B19
  refine zab oGk rfl ((hc.le lGk).rd (by omega) (by omega) ?_)
  rw [Int.toNat_natCast,zae hlt]
  obtain ⟨b,o,hk,c1,c2⟩:=(h.le lGk).idx hx.1 hx.2
  refine hk _ (zap c1 (zap c2 ?_))
  refine hF.sl.pushN zkB (by decide) hGk.1 (n:=1) (ys:=[.int .i64 (es.getD (l[i]).toNat (0,0)).1,.int .i64 (es.getD (l[i]).toNat (0,0)).2]) rfl rfl (by rw [zaI];unfold keptL;simp;omega) (by simp) fun v' G2 k2 _ _ f2=>?_
  unfold F51.B18
  rw [zad (by omega) (by omega)]
  refine ⟨⟨rfl,rfl,k2.le hGk (Nat.le_refl _),i+1,by omega,by omega,?_⟩,by simp;omega⟩
  rw [zpx hlt,zd7];exact f2
 ·have hge:i=l.length:=by have:=of_decide_eq_false hb;omega
  subst hge
  rw [List.take_length] at hF
  have hK:Edges Gk x5 (keptL es l):=hF.edges
  have hKl:(keptL es l).length=l.length:=by unfold keptL;simp
  have hKg:∀ i (hi:i<l.length),(keptL es l).getD i (0,0)=es.getD (l[i]).toNat (0,0):=fun i hi=>by unfold keptL;simp [List.getD,hi]
  have hKf:∀ e∈keptL es l,0≤e.1∧e.1<n∧0≤e.2∧e.2<n:=by
   intro e he
   unfold keptL at he
   obtain ⟨x,hx,rfl⟩:=List.mem_map.1 he
   exact hend _ (by have:=hsr x hx;omega)
  have fin:∀ (G:AHeap) (D:List Int) (bl bm bo:Nat),Gk.le G→Own G bl 2 (LI D)→Own G bm 4 (LB (List.replicate l.length false))→Own G bo 27 []→Gk.length≤bl→Gk.length≤bm→Gk.length≤bo→bl≠bm→bo≠bm→bo≠bl→Leads n.toNat (keptL es l) D→
   F51.B15 K u x5 (.slice (some ⟨bl,0,none⟩) n.toNat (n.toNat+1)) (.slice (some ⟨bm,0,none⟩) l.length (l.length+1)) (.slice (some ⟨bo,0,none⟩) 0 (0+1)) G:=by
   intro G0 D bl bm bo hG0 oD oM oO hbl hbm hbo e1 e2 e3 hD
   have same:∀ i j (hi:i<l.length) (hj:j<l.length),(D.getD (es.getD (l[i]).toNat (0,0)).1.toNat 0==D.getD (es.getD (l[j]).toNat (0,0)).1.toNat 0)=rchB (eAdj es p) (l[j]).toNat (l[i]).toNat:=by
    intro i j hi hj
    obtain ⟨a,ha,ha1,ha2⟩:=hat i hi
    obtain ⟨b,hb,hb1,hb2⟩:=hat j hj
    rw [ha,hb,Int.toNat_natCast,Int.toNat_natCast]
    have da:=hend a ha1;have db:=hend b hb1
    have hi:=hD.iff (a:=(es.getD b (0,0)).1.toNat) (b:=(es.getD a (0,0)).1.toNat) (by omega) (by omega)
    have hpart:=zvg (es:=es) (p:=p) (fun e he=>by
     obtain ⟨j,hj,rfl⟩:=List.getElem_of_mem he
     have:=hend j hj
     rw [zae hj] at this;omega) ⟨hb1,hb2⟩ ⟨ha1,ha2⟩
    rw [← hl] at hpart
    rw [Bool.eq_iff_iff,beq_iff_eq,zaE,← hpart,← hi]
    exact eq_comm
   unfold F51.B15 F51.L2
   obtain ⟨A,hA⟩:∃ A:Nat→Prop,A=fun b=>Gk.length≤b∧b≠bm∧b≠bl:=⟨_,rfl⟩
   have hnew:∀ {G:AHeap} {b:Nat},Own G bm 4 (LB (List.replicate l.length false))∨True→Gk.length≤b→b≠bm→b≠bl→A b:=fun _ h1 h2 h3=>by rw [hA];exact ⟨h1,h2,h3⟩
   refine ⟨fun x1 x5' x7 x8 x9 x10 G=>u=x1∧x5=x5'∧.slice (some ⟨bl,0,none⟩) n.toNat (n.toNat+1)=x7∧.slice (some ⟨bm,0,none⟩) l.length (l.length+1)=x8∧Gk.le G∧Own G bl 2 (LI D)∧∃ (t:Nat) (M:List Bool),x10=t∧t≤l.length∧M.length=l.length∧Own G bm 4 (LB M)∧RowsF A G.length G x9 (cycOf es p (l.take t))∧
    ∀ i (hi:i<l.length),M.getD i false=true↔∃ y∈l.take t,cLeadB es p y.toNat=true∧Rch (eAdj es p) y.toNat (l[i]).toNat,
    fun _ _ _ _ _ x10 _=>l.length-x10.toNat,⟨rfl,rfl,rfl,rfl,hG0,oD,0,_,rfl,by omega,by simp,oM,.nil1 oO (hnew (G:=G0) (.inr trivial) hbo e2 e3) oO.lt,fun i hi=>?_⟩,?_⟩
   ·have:(List.replicate l.length false).getD i false=false:=by simp [List.getD,hi]
    rw [this];simp
   clear oM oO hG0 oD
   rintro x1 x5' x7 x8 x9 x10 G1 ⟨rfl,rfl,rfl,rfl,hG1,oD,t,M,rfl,ht,hM,oM,hR,hm⟩
   have lG1:=AHeap.le_trans lGk hG1
   unfold F51.B14
   refine (hc.le lG1).len (zaa (fun hb=>?_) fun hb=>?_)
   ·have htl:t<l.length:=by have:=of_decide_eq_true hb;omega
    obtain ⟨e,he1,he2,he3⟩:=hat t htl
    have hmet:=zr2 (n:=0) hl htl
    rw [← hm t htl] at hmet
    rw [he1,Int.toNat_natCast] at hmet
    unfold F51.B13
    refine zan (by omega) (by omega) (zab oM (by rw [Int.toNat_natCast];exact zdv (by omega)) (zai (zaa (fun hs'=>?_) fun hs'=>?_)))
    ·have hnl:=hmet.1 hs'
     unfold F51.B3
     rw [zad (by omega) (by omega)]
     refine ⟨⟨rfl,rfl,rfl,rfl,hG1,oD,t+1,M,by omega,by omega,hM,oM,?_,fun i hi=>?_⟩,by simp;omega⟩
     ·rw [zkj htl,he1,Int.toNat_natCast,hnl];simpa using hR
     ·rw [hm i hi,List.take_succ_eq_append_getElem htl]
      constructor
      ·rintro ⟨y,h1,h2⟩;exact ⟨y,List.mem_append.2 (.inl h1),h2⟩
      ·rintro ⟨y,h1,h2⟩
       rcases List.mem_append.1 h1 with h1|h1
       ·exact ⟨y,h1,h2⟩
       ·rw [List.mem_singleton] at h1
        rw [h1,he1,Int.toNat_natCast,hnl] at h2
        cases h2.1
    ·have hlead:cLeadB es p e=true:=by
      cases hle:cLeadB es p e with
      | true=>rfl
      | false=>rw [hmet.2 hle] at hs';cases hs'
     unfold F51.B12
     refine zaf rfl fun H3 l3 n3 o3=>?_
     have hb3:=oM.lt;have hb4:=oD.lt
     unfold F51.B11 F51.L5
     refine ⟨fun x1 x5' x7 x8 x9' x10 x11 x12 G=>u=x1∧x5=x5'∧.slice (some ⟨bl,0,none⟩) n.toNat (n.toNat+1)=x7∧.slice (some ⟨bm,0,none⟩) l.length (l.length+1)=x8∧x9=x9'∧(t:Int)=x10∧Gk.le G∧G1.length≤G.length∧Own G bl 2 (LI D)∧∃ (i:Nat) (M:List Bool),x12=i∧t≤i∧i≤l.length∧M.length=l.length∧Own G bm 4 (LB M)∧RowsF A G1.length G x9 (cycOf es p (l.take t))∧
      Fresh G1.length G x11 2 1 (LI ((l.take i).filter (fun y=>rchB (eAdj es p) e y.toNat)))∧∀ j (hj:j<l.length),M.getD j false=true↔(∃ y∈l.take t,cLeadB es p y.toNat=true∧Rch (eAdj es p) y.toNat (l[j]).toNat)∨(t≤j∧j<i∧Rch (eAdj es p) e (l[j]).toNat),
      fun _ _ _ _ _ _ _ x12 _=>l.length-x12.toNat,⟨rfl,rfl,rfl,rfl,rfl,rfl,AHeap.le_trans hG1 l3,l3.1,oD.le l3,t,M,rfl,Nat.le_refl _,by omega,hM,oM.le l3,hR.le l3,?_,fun j hj=>?_⟩,?_⟩
     ·rw [znM hl htl he1 hlead]
      exact .inr ⟨_,0,Nat.le_refl _,rfl,o3,rfl⟩
     ·rw [hm j hj]
      exact ⟨.inl,fun h=>h.elim id fun h=>absurd h.2.1 (by omega)⟩
     clear hm hM oM oD hs' hmet
     rintro x1 x5' x7 x8 x9' x10 x11 x12 G4 ⟨rfl,rfl,rfl,rfl,rfl,rfl,hG4,hlen4,oD,i,M,rfl,hti,hi,hM,oM,hR,hF4,hm⟩
     have lG4:=AHeap.le_trans lGk hG4
     unfold F51.B10
     refine (hc.le lG4).len (zaa (fun hb=>?_) fun hb=>?_)
     ·have hil:i<l.length:=by have:=of_decide_eq_true hb;omega
      have hDi:=zau (c:=n.toNat+1) oD
      rw [hD.led.1] at hDi
      obtain ⟨e',hf1,hf2,hf3⟩:=hat i hil
      have da:=hend e' hf2;have db:=hend e he2
      have hr:rchB (eAdj es p) e (l[i]).toNat=(D.getD (es.getD e' (0,0)).1.toNat 0==D.getD (es.getD e (0,0)).1.toNat 0):=by
       have:=same i t hil htl
       rw [he1,hf1,Int.toNat_natCast,Int.toNat_natCast] at this
       rw [hf1,Int.toNat_natCast,this]
      unfold F51.B9
      obtain ⟨b,o,hk,c1,c2⟩:=(hK.le hG4).idx (i:=(i:Int)) (by omega) (by omega)
      obtain ⟨b',o',hk',c1',c2'⟩:=(hK.le hG4).idx (i:=(t:Int)) (by omega) (by omega)
      rw [Int.toNat_natCast,hKg i hil,hf1,Int.toNat_natCast] at c1
      rw [Int.toNat_natCast,hKg t htl,he1,Int.toNat_natCast] at c1'
      refine hk _ (zap c1 (hDi.rd (by omega) (by rw [hD.led.1];omega) (hk' _ (zap c1' (hDi.rd (by omega) (by rw [hD.led.1];omega) ?_)))))
      rw [← hr]
      refine zaa (fun hs'=>?_) fun hs'=>?_
      ·unfold F51.B8
       refine zan (by omega) (by omega) (zaO oM (by simp;omega) rfl fun G5 b5 o5=>?_)
       rw [Int.toNat_natCast,← List.map_set] at o5
       have hG5:=b5.le hG4 hbm
       have hx:=hsr l[i] (List.getElem_mem hil)
       unfold F51.B7
       refine (hc.le (AHeap.le_trans lGk hG5)).rd (by omega) (by omega) ?_
       rw [Int.toNat_natCast,zae hil]
       refine (hF4.but b5 hb3).sl.pushN zbl (by decide) (by have:=b5.len;omega) (n:=1) (ys:=[.int .i64 l[i]]) rfl rfl (by have:((l.take i).filter (fun y=>rchB (eAdj es p) e y.toNat)).length≤i:=Nat.le_trans (List.length_filter_le _ _) (by rw [List.length_take];omega);simp only [List.length_map,List.length_singleton];omega) (by simp) fun v' G6 k6 ot6 nb6 f6=>?_
       unfold F51.B6
       rw [zad (by omega) (by omega)]
       refine ⟨⟨rfl,rfl,rfl,rfl,rfl,rfl,k6.le hG5 hG1.1,by have:=k6.len;have:=b5.len;omega,k6.own (b5.own oD e1) hb4,i+1,M.set i true,by omega,by omega,by omega,by simpa using hM,k6.own o5 hb3,(hR.but b5 (fun h=>by rw [hA] at h;exact h.2.1 rfl)).keep k6,?_,fun j hj=>?_⟩,by simp;omega⟩
       ·rw [zmj hil,if_pos hs'];simpa using f6
       ·have hmj:=hm j hj
        by_cases ej:i=j
        ·subst ej
         have:(M.set i true).getD i false=true:=by simp [List.getD,show i<M.length by omega]
         rw [this]
         exact ⟨fun _=>.inr ⟨hti,by omega,zaE.1 hs'⟩,fun _=>rfl⟩
        ·have:(M.set i true).getD j false=M.getD j false:=by simp [List.getD,List.getElem?_set,ej]
         rw [this,hmj]
         constructor
         ·rintro (h|⟨h1,h2,h3⟩)
          ·exact .inl h
          ·exact .inr ⟨h1,by omega,h3⟩
         ·rintro (h|⟨h1,h2,h3⟩)
          ·exact .inl h
          ·exact .inr ⟨h1,by omega,h3⟩
      ·unfold F51.B6
       rw [zad (by omega) (by omega)]
       refine ⟨⟨rfl,rfl,rfl,rfl,rfl,rfl,hG4,hlen4,oD,i+1,M,by omega,by omega,by omega,hM,oM,hR,?_,fun j hj=>?_⟩,by simp;omega⟩
       ·rw [zmj hil,if_neg (by rw [hs'];decide),List.append_nil];exact hF4
       ·rw [hm j hj]
        constructor
        ·rintro (h|⟨h1,h2,h3⟩)
         ·exact .inl h
         ·exact .inr ⟨h1,by omega,h3⟩
        ·rintro (h|⟨h1,h2,h3⟩)
         ·exact .inl h
         ·by_cases ej:j=i
          ·subst ej
           rw [zaE.2 h3] at hs';cases hs'
          ·exact .inr ⟨h1,by omega,h3⟩
     ·have hge:i=l.length:=by have:=of_decide_eq_false hb;omega
      subst hge
      rw [List.take_length,znX hl ⟨he2,he3⟩] at hF4
      have hcl:(cycOf es p (l.take t)).length≤2000:=by
       unfold cycOf;rw [List.length_map]
       exact Nat.le_trans (List.length_filter_le _ _) (by rw [List.length_take];omega)
      unfold F51.B4
      refine hR.push hlen4 (fun b hb=>hnew (G:=G4) (.inr trivial) (by have:=hG1.1;omega) (by omega) (by omega)) hF4 (by omega) fun v' G7 ot7 nb7 len7 hR7=>?_
      have k7:∀ b o,(Gk.length≤b→¬ A b)→G4[b]?=some (some o)→G7[b]?=some (some o):=by
       intro b o hb ho
       refine ot7 b o (fun hv=>?_) ho
       obtain ⟨vs,_,_,q3,_⟩:=hR
       have:=(q3 b hv).1
       exact hb (by rw [hA] at this;exact this.1) this
      unfold F51.B3
      rw [zad (by omega) (by omega)]
      refine ⟨⟨rfl,rfl,rfl,rfl,⟨by have:=hG4.1;omega,fun b o ho=>k7 b o (fun hb=>by have:=zaj ho;omega) (hG4.2 b o ho)⟩,k7 bl _ (fun _ h=>by rw [hA] at h;exact h.2.2 rfl) oD,t+1,M,by omega,by omega,hM,k7 bm _ (fun _ h=>by rw [hA] at h;exact h.2.1 rfl) oM,?_,fun j hj=>?_⟩,by simp;omega⟩
      ·rw [zkj htl,he1,Int.toNat_natCast,hlead];exact hR7
      ·rw [hm j hj,List.take_succ_eq_append_getElem htl]
       constructor
       ·rintro (⟨y,h1,h2⟩|⟨h1,h2,h3⟩)
        ·exact ⟨y,List.mem_append.2 (.inl h1),h2⟩
        ·exact ⟨l[t],List.mem_append.2 (.inr (by simp)),by rw [he1];exact hlead,by rw [he1];exact h3⟩
       ·rintro ⟨y,h1,h2,h3⟩
        rcases List.mem_append.1 h1 with h1|h1
        ·exact .inl ⟨y,h1,h2,h3⟩
        ·rw [List.mem_singleton] at h1
         rw [h1,he1,Int.toNat_natCast] at h3
         refine .inr ⟨?_,hj,h3⟩
         rcases Nat.lt_or_ge j t with hjt|hjt
         ·have hin:l[j]∈(l.take t).filter (fun y=>rchB (eAdj es p) e y.toNat):=by
           rw [List.mem_filter]
           refine ⟨?_,zaE.2 h3⟩
           have:(l.take t)[j]'(by simp;omega)=l[j]:=List.getElem_take ..
           rw [← this];exact List.getElem_mem _
          rw [znM hl htl he1 hlead] at hin
          cases hin
         ·exact hjt
   ·have hge:t=l.length:=by have:=of_decide_eq_false hb;omega
    subst hge
    rw [List.take_length] at hR
    unfold F51.B1
    exact k _ _ lG1 (hR.mono (fun b hb=>by rw [hA] at hb;have:=lGk.1;omega) (Nat.le_refl _))
  clear hb hi
  unfold F51.B16
  refine zac oGk rfl ((hc.le lGk).len ⟨?_,?_,?_⟩)
  ·refine zbQ hK (by omega) (by omega) n1 hKf fun bl D G2 l2 o2 hbl hD=>⟨?_,?_⟩
   ·refine zaF (by omega) (by omega) (by decide) fun G3 l3 n3 o3=>zaf rfl fun G4 l4 n4 o4=>?_
    rw [Int.toNat_natCast,zfU] at o3
    rw [Int.toNat_natCast]
    have:=o2.lt;have:=l2.1
    exact fin G4 D bl _ _ (AHeap.le_trans l2 (AHeap.le_trans l3 l4)) (o2.le (AHeap.le_trans l3 l4)) (o3.le l4) o4 hbl (by omega) (by omega) (by omega) (by omega) (by omega) hD
   ·refine zaf rfl fun G3 l3 n3 o3=>zaF (by omega) (by omega) (by decide) fun G4 l4 n4 o4=>?_
    rw [Int.toNat_natCast,zfU] at o4
    rw [Int.toNat_natCast]
    have:=o2.lt;have:=l2.1
    exact fin G4 D bl _ _ (AHeap.le_trans l2 (AHeap.le_trans l3 l4)) (o2.le (AHeap.le_trans l3 l4)) o4 (o3.le l4) hbl (by omega) (by omega) (by omega) (by omega) (by omega) hD
  ·refine zaF (by omega) (by omega) (by decide) fun G2 l2 n2 o2=>⟨?_,?_⟩
   ·refine zbQ (hK.le l2) (by omega) (by omega) n1 hKf fun bl D G3 l3 o3 hbl hD=>zaf rfl fun G4 l4 n4 o4=>?_
    rw [Int.toNat_natCast,zfU] at o2
    rw [Int.toNat_natCast]
    have:=o3.lt;have:=l3.1
    exact fin G4 D bl _ _ (AHeap.le_trans l2 (AHeap.le_trans l3 l4)) (o3.le l4) (o2.le (AHeap.le_trans l3 l4)) o4 (by omega) (by omega) (by omega) (by omega) (by omega) (by omega) hD
   ·refine zaf rfl fun G3 l3 n3 o3=>zbQ (hK.le (AHeap.le_trans l2 l3)) (by omega) (by omega) n1 hKf fun bl D G4 l4 o4 hbl hD=>?_
    rw [Int.toNat_natCast,zfU] at o2
    rw [Int.toNat_natCast]
    have:=o4.lt;have:=l4.1
    exact fin G4 D bl _ _ (AHeap.le_trans l2 (AHeap.le_trans l3 l4)) o4 (o2.le (AHeap.le_trans l3 l4)) (o3.le l4) (by omega) (by omega) (by omega) (by omega) (by omega) (by omega) hD
  ·refine zaf rfl fun G2 l2 n2 o2=>⟨?_,?_⟩
   ·refine zbQ (hK.le l2) (by omega) (by omega) n1 hKf fun bl D G3 l3 o3 hbl hD=>zaF (by omega) (by omega) (by decide) fun G4 l4 n4 o4=>?_
    rw [Int.toNat_natCast,zfU] at o4
    rw [Int.toNat_natCast]
    have:=o3.lt;have:=l3.1
    exact fin G4 D bl _ _ (AHeap.le_trans l2 (AHeap.le_trans l3 l4)) (o3.le l4) o4 (o2.le (AHeap.le_trans l3 l4)) (by omega) (by omega) (by omega) (by omega) (by omega) (by omega) hD
   ·refine zaF (by omega) (by omega) (by decide) fun G3 l3 n3 o3=>zbQ (hK.le (AHeap.le_trans l2 l3)) (by omega) (by omega) n1 hKf fun bl D G4 l4 o4 hbl hD=>?_
    rw [Int.toNat_natCast,zfU] at o3
    rw [Int.toNat_natCast]
    have:=o4.lt;have:=l4.1
    exact fin G4 D bl _ _ (AHeap.le_trans l2 (AHeap.le_trans l3 l4)) o4 (o3.le l4) (o2.le (AHeap.le_trans l3 l4)) (by omega) (by omega) (by omega) (by omega) (by omega) (by omega) hD
theorem zeZ {n:Int} (h:Edges H v es) (hg:IsG n es) (hc:Ints H u l) (hs:IsS l es.length)
 (k:∀ v' G,H.le G→RowsF (fun b=>H.length≤b) G.length G v' (cycOf es (bitB l) l)→K v' G):AC Tryz.prog T0 51 [.agg ⟨[.int .i64 n,v]⟩,u] H K:=
 zgf h (by have:=hg.ed.lo;omega) (by have:=hg.ed.hi;omega) (by have:=hg.ed.len;have:=hg.ed.hi;omega) (fun e he=>by
  obtain ⟨d1,d2,d3,d4,d5⟩:=hg.ed.ends es[e] (List.getElem_mem he)
  rw [zae he];omega) hc hs k
end Go.Proofs
namespace Go.Proofs
open Go.Abs

variable {H G:AHeap} {v u f:Value} {l m c:List Int} {es fs:List (Int × Int)} {K:Value→AHeap→Prop} {A:Nat→Prop} {B:Nat} {ls:List (List Int)}

theorem zlL {l:List Int} {n:Nat} (h:IsS l n):filtB (fun j=>(setN l).testBit j) n=l:=h.filt.symm
theorem zul {l:List Int} {n:Nat} (h:IsS l n) (hn:n≤64):setN l<2^64:=za8 fun x hx=>by have:=h.range x hx;omega
theorem zhy {es:List (Int × Int)} {p:Nat→Bool} {l:List Int}:(cycOf es p l).length≤l.length:=by
 unfold cycOf;rw [List.length_map];exact List.length_filter_le _ _
theorem ziV {es:List (Int × Int)} {p:Nat→Bool} {l m:List Int} (h:m∈cycOf es p l):m.length≤es.length:=by
 unfold cycOf at h
 obtain ⟨x,_,rfl⟩:=List.mem_map.1 h
 exact zas _ _
noncomputable def cycB (n:Int) (es:List (Int × Int)) (l:List Int):Bool:=decide (EvenS n es (bitB l))&&(((cycOf es (bitB l) l).length:Int)==1)
theorem zjs {n:Int} (h:Edges H v es) (hg:IsG n es) (hc:Ints H u l) (hs:IsS l es.length) (k:∀ G,H.le G→K (.bool (cycB n es l)) G):AC Tryz.prog T0 76 [.agg ⟨[.int .i64 n,v]⟩,u] H K:=by
 apply F76.ac
 unfold F76.B2
 refine zaf (zak (zah h)) fun H1 l1 n1 o1=>?_
 unfold F76.B1
 unfold cycB at k
 refine (hc.le l1).len (zaa (fun hb=>?_) fun hb=>?_)
 ·refine zac o1 rfl (zab o1 rfl (zks (h.le l1) hg (hc.le l1) hs fun H2 l2=>zai (zaa (fun he=>?_) fun he=>?_)))
  ·have l12:=AHeap.le_trans l1 l2
   refine zac (o1.le l2) rfl (zab (o1.le l2) rfl (zeZ (h.le l12) hg (hc.le l12) hs fun v' H3 l3 hR=>hR.len ?_))
   have k:=k _ (AHeap.le_trans l12 l3)
   rw [he,Bool.true_and] at k;exact k
  ·have k:=k _ (AHeap.le_trans l1 l2)
   rw [he,Bool.false_and] at k;exact k
 ·have hl0:l=[]:=List.length_eq_zero_iff.1 (by have:=of_decide_eq_false hb;omega)
  have k:=k _ l1
  have e0:(cycOf es (bitB l) l).length=0:=by rw [hl0];rfl
  rw [e0] at k
  simpa using k
theorem zj9 {n:Int} (h:Edges H v es) (hg:IsG n es) (hs:IsS l es.length) (k:∀ G,H.le G→K (.bool (cycB n es l)) G):AC Tryz.prog T0 52 [.agg ⟨[.int .i64 n,v]⟩,.int .u64 (setN l:Nat)] H K:=by
 have h30:es.length≤30:=by have:=hg.ed.len;have:=hg.ed.hi;omega
 have hsl:=zul hs (by omega)
 apply F52.ac
 unfold F52.B2
 refine zaf (zak (zah h)) fun H1 l1 n1 o1=>?_
 unfold F52.B1
 unfold cycB at k
 refine zac o1 rfl (zab o1 rfl (zmD (h.le l1) hg hsl fun H2 l2=>zai ?_))
 rw [show (fun j=>(setN l).testBit j)=bitB l from rfl]
 refine zaa (fun he=>?_) fun he=>?_
 ·have l12:=AHeap.le_trans l1 l2
  refine zac (o1.le l2) rfl (zab (o1.le l2) rfl (zeJ (h.le l12) hg hsl (fun j hj=>zeg hs hj) fun w H4 l4 f4=>?_))
  rw [zlL hs,show (fun j=>(setN l).testBit j)=bitB l from rfl] at f4
  refine f4.sl.len (by decide) (n:=(cycOf es (bitB l) l).length) (by unfold cycN cycOf;simp) ?_
  have k:=k _ (AHeap.le_trans l12 l4)
  rw [he,Bool.true_and] at k;exact k
 ·have k:=k _ (AHeap.le_trans l1 l2)
  rw [he,Bool.false_and] at k;exact k
end Go.Proofs
namespace Go.Proofs
open Go.Abs

variable {H G:AHeap} {v u f:Value} {l m c:List Int} {es fs:List (Int × Int)} {K:Value→AHeap→Prop}

end Go.Proofs
namespace Go.Proofs
open Go.Abs

variable {H G:AHeap} {v u f:Value} {l m c D:List Int} {es fs:List (Int × Int)} {K:Value→AHeap→Prop} {n:Int}

end Go.Proofs
namespace Go.Proofs
open Go.Abs

variable {H G:AHeap} {v u f:Value} {l m c D:List Int} {es fs:List (Int × Int)} {K:Value→AHeap→Prop}

section
variable {n:Int} {H0:AHeap} {pb cb ub:Nat} {tP:TypeId} {qE fV:Value} {X:Nat→Prop} {J:List (List Int)→AHeap→Prop} {q:List Int→Bool} {N Bd:Nat}
end
theorem zhj {n:Int} (h:Edges H v es) (hg:IsG n es) (k:∀ v' G,H.le G→RowsF (fun b=>H.length≤b) G.length G v' (partL es n.toNat)→K v' G) :
 AC Tryz.prog T0 141 [.agg ⟨[.int .i64 n,v]⟩] H K:=by
 have n0:=hg.ed.lo;have n1:=hg.ed.hi
 have h30:es.length≤30:=by have:=hg.ed.len;omega
 have hz:restL es (fun j=>(0:Nat).testBit j)=es:=zd2 es fun j=>Nat.zero_testBit j
 apply F141.ac
 unfold F141.B18
 refine zaf (zak (zah h)) fun H1 l1 n1' o1=>?_
 unfold F141.B17 F141.B16
 refine zac o1 rfl (zab o1 rfl (zc8 (s:=0) (h.le l1) hg (by decide) fun q H2 l2 hR=>?_))
 rw [hz] at hR
 have l12:=AHeap.le_trans l1 l2
 have o2:=o1.le l2
 have hll:=zeN es n.toNat
 have hpl:=zeV (es:=es) n.toNat
 have hsn:=zgm es n.toNat
 refine hR.len ?_
 unfold F141.L2
 refine ⟨fun x1 x3 x11 x12 x13 G=>H.length=x1∧q=x11∧(((sidesL es n.toNat).length:Nat):Int)=x12∧Keep H2.length H2 G∧∃ i:Nat,x13=i∧i≤(sidesL es n.toNat).length∧RowsF (fun b=>H2.length≤b) G.length G x3 ((partL es n.toNat).take i),fun _ _ _ _ x13 _=>(sidesL es n.toNat).length-x13.toNat,
  ⟨rfl,rfl,rfl,.refl,0,rfl,by omega,.nil⟩,?_⟩
 rintro x1 x3 x11 x12 x13 G ⟨rfl,rfl,rfl,kp,i,rfl,hi,hX⟩
 have lG:H.le G:=kp.le l12 l12.1
 have hRG:=hR.keep kp
 have oG:=kp.own o2 o2.lt
 have hGl:=kp.len
 unfold F141.B15
 refine zaa (fun hb=>?_) fun hb=>?_
 ·have hlt:i<(sidesL es n.toNat).length:=by have:=of_decide_eq_true hb;omega
  have hlt':i<(leadL es n.toNat).length:=by omega
  obtain ⟨s1,s2,s3⟩:=znV hlt'
  have hpg:=zuu hlt'
  obtain ⟨w,hw⟩:∃ w,w=(leadL es n.toNat)[i]:=⟨_,rfl⟩
  rw [← hw] at s1 s2 s3 hpg
  unfold F141.B14
  refine hRG.row hlt fun y fy=>?_
  rw [s1] at fy
  have hside:∀ x∈sideL es n.toNat w,0≤x∧x<64:=fun x hx=>by obtain ⟨j,rfl,hj,_⟩:=zcf.1 hx;omega
  have hs64:setN (sideL es n.toNat w)<2^64:=za8 fun x hx=>(hside x hx).2
  have hslen:(sideL es n.toNat w).length≤n.toNat:=zas _ _
  unfold F141.B13
  refine zbk fy.ints (by omega) hside (zag ?_)
  unfold F141.B12 F141.B11
  refine zab oG rfl ((h.le lG).len ?_)
  unfold F141.L5
  refine ⟨fun x1 y3 x6 x7 x11 x12 x13 x20 x21 x22 G'=>H.length=x1∧x3=y3∧((setN (sideL es n.toNat w):Nat):Int)=x6∧q=x11∧(((sidesL es n.toNat).length:Nat):Int)=x12∧(i:Int)=x13∧v=x20∧(es.length:Int)=x21∧Keep G.length G G'∧∃ t:Nat,x22=t∧t≤es.length∧Fresh G.length G' x7 2 1 (LI (filtB (partB es w) t)),fun _ _ _ _ _ _ _ _ _ x22 _=>es.length-x22.toNat,
   ⟨rfl,rfl,rfl,rfl,rfl,rfl,rfl,rfl,.refl,0,rfl,by omega,.inl ⟨rfl,.inl rfl⟩⟩,?_⟩
  rintro x1 y3 x6 x7 x11 x12 x13 x20 x21 x22 G' ⟨rfl,rfl,rfl,rfl,rfl,rfl,rfl,rfl,kp',t,rfl,ht,hF⟩
  have lG':H.le G':=kp'.le lG lG.1
  unfold F141.B10
  refine zaa (fun hb=>?_) fun hb=>?_
  ·have hlt2:t<es.length:=by have:=of_decide_eq_true hb;omega
   have hm:es.getD t (0,0)∈es:=by rw [zae hlt2];exact List.getElem_mem _
   have hr:=zdB hg _ hm
   obtain ⟨bb,oo,hk,q1,q2⟩:=(h.le lG').idx (show (0:Int)≤t by omega) (by omega)
   simp only [Int.toNat_natCast] at q1 q2
   have hfl:=zas (partB es w) t
   unfold F141.B9
   refine hk _ (zap q1 (zap q2 (zaf rfl fun G2 l2' n2 o2'=>zaG (new:=[.int .i64 (es.getD t (0,0)).1,.int .i64 (es.getD t (0,0)).2]) o2' (by simp) (by simp [Value.oneCell']) rfl fun G3 b3 o3=>?_)))
   have l3:G'.le G3:=b3.le l2' (Nat.le_refl _)
   have b1:(setN (sideL es n.toNat w)).testBit (es.getD t (0,0)).1.toNat=partB es w t:=zlO (by omega)
   unfold F141.B8
   refine zac o3 rfl (zcv hs64 hr.1 (zai ?_))
   rw [b1]
   have kp3:=kp'.trans (.of_le l3)
   have hF3:=hF.le l3
   refine zaa (fun hc=>?_) fun hc=>?_
   ·unfold F141.B7
    refine hF3.sl.pushN zbl (by decide) kp3.len (n:=1) (ys:=[.int .i64 (t:Int)]) rfl rfl (by simp;omega) (by simp) fun v3 G4 k4 _ _ f4=>?_
    unfold F141.B6
    rw [zad (by omega) (by omega)]
    refine ⟨⟨rfl,rfl,rfl,rfl,rfl,rfl,rfl,rfl,kp3.trans k4,t+1,by omega,by omega,?_⟩,by simp;omega⟩
    rw [zaH,hc];simpa using f4
   ·unfold F141.B6
    rw [zad (by omega) (by omega)]
    refine ⟨⟨rfl,rfl,rfl,rfl,rfl,rfl,rfl,rfl,kp3,t+1,by omega,by omega,?_⟩,by simp;omega⟩
    rw [zaH,hc];simpa using hF3
  ·have hte:t=es.length:=by have:=of_decide_eq_false hb;omega
   subst hte
   have hX':=hX.keep kp'
   have hx3:∀ b,bk x3=some b→H2.length≤b:=fun b hb=>by
    obtain ⟨vs,_,_,q3,_⟩:=hX
    exact (q3 b hb).1
   unfold F141.B4
   refine hX'.push kp'.len (fun b hb=>by omega) hF (by rw [List.length_take];omega) fun v' G4 ot nb hlen hR4=>?_
   unfold F141.B3
   rw [zad (by omega) (by omega)]
   have hgl':=kp'.len
   refine ⟨⟨rfl,rfl,rfl,⟨by omega,fun b o hb ho=>ot b o (fun e=>by have:=hx3 b e;omega) (kp'.old b o (by have:=kp.len;omega) (kp.old b o hb ho))⟩,i+1,by omega,by omega,?_⟩,by simp;omega⟩
   rw [List.take_succ_eq_append_getElem (by omega),← zae (d:=[]) (by omega),hpg]
   exact hR4
 ·have hie:i=(sidesL es n.toNat).length:=by have:=of_decide_eq_false hb;omega
  subst hie
  unfold F141.B1
  rw [List.take_of_length_le (by omega)] at hX
  exact k x3 G lG (hX.mono (fun b hb=>by have:=l12.1;omega) (Nat.le_refl _))
end Go.Proofs
namespace Go.Proofs
open Go.Abs

variable {B0 H G G':AHeap} {v u vE vv:Value} {E L:List Int} {es:List (Int × Int)} {K:Value→AHeap→Prop} {n:Int} {bC:Nat}

theorem ztH (h:vv.oneCell'=true):[vv,chV,ceV].all Value.oneCell'=true:=by rw [List.all_cons,h];rfl
theorem flRegion {H0:AHeap} {x4 x5 x6 x7 x9:Nat} {t4:TypeId} (o4:Own H0 x4 t4 [.int .i64 n,v]) (h0:0≤n) (h1:n≤1000)
 (kB:∀ G s m a b,H0.le G→H0.length≤s→H0.length≤m→H0.length≤a→H0.length≤b→s≠m→s≠a→s≠b→m≠a→m≠b→a≠b→Own G s 2 (LI (List.replicate n.toNat 0))→Own G m 2 (LI (List.replicate n.toNat 3))→Own G a 27 [slV s n.toNat]→Own G b 27 [slV m n.toNat]→F142.B3 K x4 x5 x6 x7 x9 a b G) :
 F142.B4 K x4 x5 x6 x7 x9 H0:=by
 have d6:∀ s m a b q G,H0.le G→H0.length≤s→Own G s 2 (LI (List.replicate n.toNat 0))→H0.length≤m→Own G m 2 (LI (List.replicate n.toNat 3))→H0.length≤a→Own G a 27 [.slice none 0 0]→H0.length≤b→Own G b 27 [.slice none 0 0]→s≠m→s≠a→s≠b→m≠a→m≠b→a≠b→F142.D6 K x4 x5 x6 x7 x9 a b n (slV s n.toNat) q n (slV m n.toNat) G:=by
  intro s m a b q G l hs os hm om ha oa hb ob nsm nsa nsb nma nmb nab
  unfold F142.D6
  refine zay rfl (zaG (new:=[slV s n.toNat]) oa (by simp) (by simp [Value.oneCell']) rfl fun G1 b1 p1=>?_)
  unfold F142.D5
  refine zay rfl (zaG (new:=[slV m n.toNat]) (b1.own ob (Ne.symm nab)) (by simp) (by simp [Value.oneCell']) rfl fun G2 b2 p2=>?_)
  exact kB G2 s m a b (b2.le (b1.le l ha) hb) hs hm ha hb nsm nsa nsb nma nmb nab (b2.own (b1.own os nsa) nsb) (b2.own (b1.own om nma) nmb) (b2.own p1 nab) p2
 have d7:∀ s m a q G,H0.le G→H0.length≤s→Own G s 2 (LI (List.replicate n.toNat 0))→H0.length≤m→Own G m 2 (LI (List.replicate n.toNat 3))→H0.length≤a→Own G a 27 [.slice none 0 0]→s≠m→s≠a→m≠a→F142.D7 K x4 x5 x6 x7 x9 a n (slV s n.toNat) q n (slV m n.toNat) G:=by
  intro s m a q G l hs os hm om ha oa nsm nsa nma
  unfold F142.D7
  exact zaf rfl fun G' l' _ o'=>d6 s m a G.length q G' (AHeap.le_trans l l') hs (os.le l') hm (om.le l') ha (oa.le l') l.1 o' nsm nsa (Nat.ne_of_lt os.lt) nma (Nat.ne_of_lt om.lt) (Nat.ne_of_lt oa.lt)
 have d8:∀ s m b q G,H0.le G→H0.length≤s→Own G s 2 (LI (List.replicate n.toNat 0))→H0.length≤m→Own G m 2 (LI (List.replicate n.toNat 3))→H0.length≤b→Own G b 27 [.slice none 0 0]→s≠m→s≠b→m≠b→F142.D8 K x4 x5 x6 x7 x9 b n (slV s n.toNat) q n (slV m n.toNat) G:=by
  intro s m b q G l hs os hm om hb ob nsm nsb nmb
  unfold F142.D8
  exact zaf rfl fun G' l' _ o'=>d6 s m G.length b q G' (AHeap.le_trans l l') hs (os.le l') hm (om.le l') l.1 o' hb (ob.le l') nsm (Nat.ne_of_lt os.lt) nsb (Nat.ne_of_lt om.lt) nmb (Nat.ne_of_gt ob.lt)
 have d9:∀ s m q G,H0.le G→H0.length≤s→Own G s 2 (LI (List.replicate n.toNat 0))→H0.length≤m→Own G m 2 (LI (List.replicate n.toNat 3))→s≠m→F142.D9 K x4 x5 x6 x7 x9 n (slV s n.toNat) q n (slV m n.toNat) G:=by
  intro s m q G l hs os hm om nsm
  unfold F142.D9
  exact ⟨zaf rfl fun G' l' _ o'=>d7 s m G.length q G' (AHeap.le_trans l l') hs (os.le l') hm (om.le l') l.1 o' nsm (Nat.ne_of_lt os.lt) (Nat.ne_of_lt om.lt),zaf rfl fun G' l' _ o'=>d8 s m G.length q G' (AHeap.le_trans l l') hs (os.le l') hm (om.le l') l.1 o' nsm (Nat.ne_of_lt os.lt) (Nat.ne_of_lt om.lt)⟩
 have d10:∀ s a b q G,H0.le G→H0.length≤s→Own G s 2 (LI (List.replicate n.toNat 0))→H0.length≤a→Own G a 27 [.slice none 0 0]→H0.length≤b→Own G b 27 [.slice none 0 0]→Own G q 2 (LI [3])→s≠a→s≠b→a≠b→F142.D10 K x4 x5 x6 x7 x9 a b n (slV s n.toNat) q n G:=by
  intro s a b q G l hs os ha oa hb ob oq nsa nsb nab
  unfold F142.D10
  exact zbE oq h0 (by omega) fun G' l' o'=>⟨zac (o4.le (AHeap.le_trans l l')) rfl ⟨rfl,rfl⟩,d6 s G.length a b q G' (AHeap.le_trans l l') hs (os.le l') l.1 o' ha (oa.le l') hb (ob.le l') (Nat.ne_of_lt os.lt) nsa nsb (Nat.ne_of_gt oa.lt) (Nat.ne_of_gt ob.lt) nab⟩
 have d11:∀ s a q G,H0.le G→H0.length≤s→Own G s 2 (LI (List.replicate n.toNat 0))→H0.length≤a→Own G a 27 [.slice none 0 0]→Own G q 2 (LI [3])→s≠a→F142.D11 K x4 x5 x6 x7 x9 a n (slV s n.toNat) q n G:=by
  intro s a q G l hs os ha oa oq nsa
  unfold F142.D11
  exact ⟨zbE oq h0 (by omega) fun G' l' o'=>⟨zac (o4.le (AHeap.le_trans l l')) rfl ⟨rfl,rfl⟩,d7 s G.length a q G' (AHeap.le_trans l l') hs (os.le l') l.1 o' ha (oa.le l') (Nat.ne_of_lt os.lt) nsa (Nat.ne_of_gt oa.lt)⟩,zaf rfl fun G' l' _ o'=>d10 s a G.length q G' (AHeap.le_trans l l') hs (os.le l') ha (oa.le l') l.1 o' (oq.le l') nsa (Nat.ne_of_lt os.lt) (Nat.ne_of_lt oa.lt)⟩
 have d12:∀ s b q G,H0.le G→H0.length≤s→Own G s 2 (LI (List.replicate n.toNat 0))→H0.length≤b→Own G b 27 [.slice none 0 0]→Own G q 2 (LI [3])→s≠b→F142.D12 K x4 x5 x6 x7 x9 b n (slV s n.toNat) q n G:=by
  intro s b q G l hs os hb ob oq nsb
  unfold F142.D12
  exact ⟨zbE oq h0 (by omega) fun G' l' o'=>⟨zac (o4.le (AHeap.le_trans l l')) rfl ⟨rfl,rfl⟩,d8 s G.length b q G' (AHeap.le_trans l l') hs (os.le l') l.1 o' hb (ob.le l') (Nat.ne_of_lt os.lt) nsb (Nat.ne_of_gt ob.lt)⟩,zaf rfl fun G' l' _ o'=>d10 s G.length b q G' (AHeap.le_trans l l') hs (os.le l') l.1 o' hb (ob.le l') (oq.le l') (Nat.ne_of_lt os.lt) nsb (Nat.ne_of_gt ob.lt)⟩
 have d13:∀ s q G,H0.le G→H0.length≤s→Own G s 2 (LI (List.replicate n.toNat 0))→Own G q 2 (LI [3])→F142.D13 K x4 x5 x6 x7 x9 n (slV s n.toNat) q n G:=by
  intro s q G l hs os oq
  unfold F142.D13
  exact ⟨zbE oq h0 (by omega) fun G' l' o'=>⟨zac (o4.le (AHeap.le_trans l l')) rfl ⟨rfl,rfl⟩,d9 s G.length q G' (AHeap.le_trans l l') hs (os.le l') l.1 o' (Nat.ne_of_lt os.lt)⟩,zaf rfl fun G' l' _ o'=>d11 s G.length q G' (AHeap.le_trans l l') hs (os.le l') l.1 o' (oq.le l') (Nat.ne_of_lt os.lt),zaf rfl fun G' l' _ o'=>d12 s G.length q G' (AHeap.le_trans l l') hs (os.le l') l.1 o' (oq.le l') (Nat.ne_of_lt os.lt)⟩
 have d14:∀ s a b G,H0.le G→H0.length≤s→Own G s 2 (LI (List.replicate n.toNat 0))→H0.length≤a→Own G a 27 [.slice none 0 0]→H0.length≤b→Own G b 27 [.slice none 0 0]→s≠a→s≠b→a≠b→F142.D14 K x4 x5 x6 x7 x9 a b n (slV s n.toNat) n G:=by
  intro s a b G l hs os ha oa hb ob nsa nsb nab
  unfold F142.D14
  exact zaf rfl fun G' l' _ o'=>d10 s a b G.length G' (AHeap.le_trans l l') hs (os.le l') ha (oa.le l') hb (ob.le l') o' nsa nsb nab
 have d15:∀ s a G,H0.le G→H0.length≤s→Own G s 2 (LI (List.replicate n.toNat 0))→H0.length≤a→Own G a 27 [.slice none 0 0]→s≠a→F142.D15 K x4 x5 x6 x7 x9 a n (slV s n.toNat) n G:=by
  intro s a G l hs os ha oa nsa
  unfold F142.D15
  exact ⟨zaf rfl fun G' l' _ o'=>d11 s a G.length G' (AHeap.le_trans l l') hs (os.le l') ha (oa.le l') o' nsa,zaf rfl fun G' l' _ o'=>d14 s a G.length G' (AHeap.le_trans l l') hs (os.le l') ha (oa.le l') l.1 o' nsa (Nat.ne_of_lt os.lt) (Nat.ne_of_lt oa.lt)⟩
 have d16:∀ s b G,H0.le G→H0.length≤s→Own G s 2 (LI (List.replicate n.toNat 0))→H0.length≤b→Own G b 27 [.slice none 0 0]→s≠b→F142.D16 K x4 x5 x6 x7 x9 b n (slV s n.toNat) n G:=by
  intro s b G l hs os hb ob nsb
  unfold F142.D16
  exact ⟨zaf rfl fun G' l' _ o'=>d12 s b G.length G' (AHeap.le_trans l l') hs (os.le l') hb (ob.le l') o' nsb,zaf rfl fun G' l' _ o'=>d14 s G.length b G' (AHeap.le_trans l l') hs (os.le l') l.1 o' hb (ob.le l') (Nat.ne_of_lt os.lt) nsb (Nat.ne_of_gt ob.lt)⟩
 have d17:∀ s G,H0.le G→H0.length≤s→Own G s 2 (LI (List.replicate n.toNat 0))→F142.D17 K x4 x5 x6 x7 x9 n (slV s n.toNat) n G:=by
  intro s G l hs os
  unfold F142.D17
  exact ⟨zaf rfl fun G' l' _ o'=>d13 s G.length G' (AHeap.le_trans l l') hs (os.le l') o',zaf rfl fun G' l' _ o'=>d15 s G.length G' (AHeap.le_trans l l') hs (os.le l') l.1 o' (Nat.ne_of_lt os.lt),zaf rfl fun G' l' _ o'=>d16 s G.length G' (AHeap.le_trans l l') hs (os.le l') l.1 o' (Nat.ne_of_lt os.lt)⟩
 have d18:∀ m a b q G,H0.le G→H0.length≤m→Own G m 2 (LI (List.replicate n.toNat 3))→H0.length≤a→Own G a 27 [.slice none 0 0]→H0.length≤b→Own G b 27 [.slice none 0 0]→m≠a→m≠b→a≠b→F142.D18 K x4 x5 x6 x7 x9 a b n q n (slV m n.toNat) G:=by
  intro m a b q G l hm om ha oa hb ob nma nmb nab
  unfold F142.D18
  exact zaF h0 (by omega) (by decide) fun G' l' _ o'=>d6 G.length m a b q G' (AHeap.le_trans l l') l.1 (by simpa using o') hm (om.le l') ha (oa.le l') hb (ob.le l') (Nat.ne_of_gt om.lt) (Nat.ne_of_gt oa.lt) (Nat.ne_of_gt ob.lt) nma nmb nab
 have d19:∀ m a q G,H0.le G→H0.length≤m→Own G m 2 (LI (List.replicate n.toNat 3))→H0.length≤a→Own G a 27 [.slice none 0 0]→m≠a→F142.D19 K x4 x5 x6 x7 x9 a n q n (slV m n.toNat) G:=by
  intro m a q G l hm om ha oa nma
  unfold F142.D19
  exact ⟨zaF h0 (by omega) (by decide) fun G' l' _ o'=>d7 G.length m a q G' (AHeap.le_trans l l') l.1 (by simpa using o') hm (om.le l') ha (oa.le l') (Nat.ne_of_gt om.lt) (Nat.ne_of_gt oa.lt) nma,zaf rfl fun G' l' _ o'=>d18 m a G.length q G' (AHeap.le_trans l l') hm (om.le l') ha (oa.le l') l.1 o' nma (Nat.ne_of_lt om.lt) (Nat.ne_of_lt oa.lt)⟩
 have d20:∀ m b q G,H0.le G→H0.length≤m→Own G m 2 (LI (List.replicate n.toNat 3))→H0.length≤b→Own G b 27 [.slice none 0 0]→m≠b→F142.D20 K x4 x5 x6 x7 x9 b n q n (slV m n.toNat) G:=by
  intro m b q G l hm om hb ob nmb
  unfold F142.D20
  exact ⟨zaF h0 (by omega) (by decide) fun G' l' _ o'=>d8 G.length m b q G' (AHeap.le_trans l l') l.1 (by simpa using o') hm (om.le l') hb (ob.le l') (Nat.ne_of_gt om.lt) (Nat.ne_of_gt ob.lt) nmb,zaf rfl fun G' l' _ o'=>d18 m G.length b q G' (AHeap.le_trans l l') hm (om.le l') l.1 o' hb (ob.le l') (Nat.ne_of_lt om.lt) nmb (Nat.ne_of_gt ob.lt)⟩
 have d21:∀ m q G,H0.le G→H0.length≤m→Own G m 2 (LI (List.replicate n.toNat 3))→F142.D21 K x4 x5 x6 x7 x9 n q n (slV m n.toNat) G:=by
  intro m q G l hm om
  unfold F142.D21
  exact ⟨zaF h0 (by omega) (by decide) fun G' l' _ o'=>d9 G.length m q G' (AHeap.le_trans l l') l.1 (by simpa using o') hm (om.le l') (Nat.ne_of_gt om.lt),zaf rfl fun G' l' _ o'=>d19 m G.length q G' (AHeap.le_trans l l') hm (om.le l') l.1 o' (Nat.ne_of_lt om.lt),zaf rfl fun G' l' _ o'=>d20 m G.length q G' (AHeap.le_trans l l') hm (om.le l') l.1 o' (Nat.ne_of_lt om.lt)⟩
 have d22:∀ a b q G,H0.le G→H0.length≤a→Own G a 27 [.slice none 0 0]→H0.length≤b→Own G b 27 [.slice none 0 0]→Own G q 2 (LI [3])→a≠b→F142.D22 K x4 x5 x6 x7 x9 a b n q n G:=by
  intro a b q G l ha oa hb ob oq nab
  unfold F142.D22
  exact ⟨zaF h0 (by omega) (by decide) fun G' l' _ o'=>d10 G.length a b q G' (AHeap.le_trans l l') l.1 (by simpa using o') ha (oa.le l') hb (ob.le l') (oq.le l') (Nat.ne_of_gt oa.lt) (Nat.ne_of_gt ob.lt) nab,zbE oq h0 (by omega) fun G' l' o'=>⟨zac (o4.le (AHeap.le_trans l l')) rfl ⟨rfl,rfl⟩,d18 G.length a b q G' (AHeap.le_trans l l') l.1 o' ha (oa.le l') hb (ob.le l') (Nat.ne_of_gt oa.lt) (Nat.ne_of_gt ob.lt) nab⟩⟩
 have d23:∀ a q G,H0.le G→H0.length≤a→Own G a 27 [.slice none 0 0]→Own G q 2 (LI [3])→F142.D23 K x4 x5 x6 x7 x9 a n q n G:=by
  intro a q G l ha oa oq
  unfold F142.D23
  exact ⟨zaF h0 (by omega) (by decide) fun G' l' _ o'=>d11 G.length a q G' (AHeap.le_trans l l') l.1 (by simpa using o') ha (oa.le l') (oq.le l') (Nat.ne_of_gt oa.lt),zbE oq h0 (by omega) fun G' l' o'=>⟨zac (o4.le (AHeap.le_trans l l')) rfl ⟨rfl,rfl⟩,d19 G.length a q G' (AHeap.le_trans l l') l.1 o' ha (oa.le l') (Nat.ne_of_gt oa.lt)⟩,zaf rfl fun G' l' _ o'=>d22 a G.length q G' (AHeap.le_trans l l') ha (oa.le l') l.1 o' (oq.le l') (Nat.ne_of_lt oa.lt)⟩
 have d24:∀ b q G,H0.le G→H0.length≤b→Own G b 27 [.slice none 0 0]→Own G q 2 (LI [3])→F142.D24 K x4 x5 x6 x7 x9 b n q n G:=by
  intro b q G l hb ob oq
  unfold F142.D24
  exact ⟨zaF h0 (by omega) (by decide) fun G' l' _ o'=>d12 G.length b q G' (AHeap.le_trans l l') l.1 (by simpa using o') hb (ob.le l') (oq.le l') (Nat.ne_of_gt ob.lt),zbE oq h0 (by omega) fun G' l' o'=>⟨zac (o4.le (AHeap.le_trans l l')) rfl ⟨rfl,rfl⟩,d20 G.length b q G' (AHeap.le_trans l l') l.1 o' hb (ob.le l') (Nat.ne_of_gt ob.lt)⟩,zaf rfl fun G' l' _ o'=>d22 G.length b q G' (AHeap.le_trans l l') l.1 o' hb (ob.le l') (oq.le l') (Nat.ne_of_gt ob.lt)⟩
 have d25:∀ q G,H0.le G→Own G q 2 (LI [3])→F142.D25 K x4 x5 x6 x7 x9 n q n G:=by
  intro q G l oq
  unfold F142.D25
  exact ⟨zaF h0 (by omega) (by decide) fun G' l' _ o'=>d13 G.length q G' (AHeap.le_trans l l') l.1 (by simpa using o') (oq.le l'),zbE oq h0 (by omega) fun G' l' o'=>⟨zac (o4.le (AHeap.le_trans l l')) rfl ⟨rfl,rfl⟩,d21 G.length q G' (AHeap.le_trans l l') l.1 o'⟩,zaf rfl fun G' l' _ o'=>d23 G.length q G' (AHeap.le_trans l l') l.1 o' (oq.le l'),zaf rfl fun G' l' _ o'=>d24 G.length q G' (AHeap.le_trans l l') l.1 o' (oq.le l')⟩
 have d26:∀ a b G,H0.le G→H0.length≤a→Own G a 27 [.slice none 0 0]→H0.length≤b→Own G b 27 [.slice none 0 0]→a≠b→F142.D26 K x4 x5 x6 x7 x9 a b n n G:=by
  intro a b G l ha oa hb ob nab
  unfold F142.D26
  exact ⟨zaF h0 (by omega) (by decide) fun G' l' _ o'=>d14 G.length a b G' (AHeap.le_trans l l') l.1 (by simpa using o') ha (oa.le l') hb (ob.le l') (Nat.ne_of_gt oa.lt) (Nat.ne_of_gt ob.lt) nab,zaf rfl fun G' l' _ o'=>d22 a b G.length G' (AHeap.le_trans l l') ha (oa.le l') hb (ob.le l') o' nab⟩
 have d27:∀ a G,H0.le G→H0.length≤a→Own G a 27 [.slice none 0 0]→F142.D27 K x4 x5 x6 x7 x9 a n n G:=by
  intro a G l ha oa
  unfold F142.D27
  exact ⟨zaF h0 (by omega) (by decide) fun G' l' _ o'=>d15 G.length a G' (AHeap.le_trans l l') l.1 (by simpa using o') ha (oa.le l') (Nat.ne_of_gt oa.lt),zaf rfl fun G' l' _ o'=>d23 a G.length G' (AHeap.le_trans l l') ha (oa.le l') o',zaf rfl fun G' l' _ o'=>d26 a G.length G' (AHeap.le_trans l l') ha (oa.le l') l.1 o' (Nat.ne_of_lt oa.lt)⟩
 have d28:∀ b G,H0.le G→H0.length≤b→Own G b 27 [.slice none 0 0]→F142.D28 K x4 x5 x6 x7 x9 b n n G:=by
  intro b G l hb ob
  unfold F142.D28
  exact ⟨zaF h0 (by omega) (by decide) fun G' l' _ o'=>d16 G.length b G' (AHeap.le_trans l l') l.1 (by simpa using o') hb (ob.le l') (Nat.ne_of_gt ob.lt),zaf rfl fun G' l' _ o'=>d24 b G.length G' (AHeap.le_trans l l') hb (ob.le l') o',zaf rfl fun G' l' _ o'=>d26 G.length b G' (AHeap.le_trans l l') l.1 o' hb (ob.le l') (Nat.ne_of_gt ob.lt)⟩
 have d29:∀ G,H0.le G→F142.D29 K x4 x5 x6 x7 x9 n n G:=by
  intro G l
  unfold F142.D29
  exact ⟨zaF h0 (by omega) (by decide) fun G' l' _ o'=>d17 G.length G' (AHeap.le_trans l l') l.1 (by simpa using o'),zaf rfl fun G' l' _ o'=>d25 G.length G' (AHeap.le_trans l l') o',zaf rfl fun G' l' _ o'=>d27 G.length G' (AHeap.le_trans l l') l.1 o',zaf rfl fun G' l' _ o'=>d28 G.length G' (AHeap.le_trans l l') l.1 o'⟩
 unfold F142.B4
 unfold F142.D32
 refine zac o4 rfl ?_
 unfold F142.D31
 unfold F142.D30
 refine zac o4 rfl ?_
 exact d29 H0 (AHeap.le_refl _)
theorem zwl (hg:IsG n es) (hEd:Edges B0 v es) (hE:Ints B0 vE E) (hEr:∀ x∈E,0≤x∧x<es.length) (hv:Ints B0 vv [1,2,3]) (h30:E.length≤30) (lB:B0.le H) (hC:B0.length≤bC) (oC:Own H bC 2 [.int .i64 0])
 (k:∀ G,Kb bC H G→Own G bC 2 [.int .i64 ((flP es E:Nat):Int)]→K (.bool false) G):AC Tryz.prog T0 142 [.agg ⟨[.int .i64 n,v]⟩,.agg ⟨[vv,chV,ceV]⟩,vE,doV bC] H K:=by
 have n0:=hg.ed.lo;have n1:=hg.ed.hi
 have he30:es.length≤30:=by have:=hg.ed.len;omega
 have hv1:vv.oneCell'=true:=za2 hv
 have hE1:vE.oneCell'=true:=za2 hE
 have hbC:=oC.lt
 have p30:(3:Nat)^30=205891132094649:=by decide
 have hp:3^E.length≤3^30:=Nat.pow_le_pow_right (by decide) h30
 apply F142.ac
 unfold F142.B34
 refine zaf (zak (zah (hEd.le lB))) fun H1 l1 m1 o1=>zaf (ztH hv1) fun H2 l2 m2 o2=>zay hE1 (zaf (by simpa using hE1) fun H3 l3 m3 o3=>zay rfl (zaf (by simp [Value.oneCell']) fun H4 l4 m4 o4=>?_))
 have o14:=((o1.le l2).le l3).le l4
 have lB4:=AHeap.le_trans (AHeap.le_trans (AHeap.le_trans (AHeap.le_trans lB l1) l2) l3) l4
 unfold F142.B33
 refine zab o14 rfl ((hEd.le lB4).len (zaF (by omega) (by omega) (by decide) fun H5 l5 m5 o5=>zaf rfl fun H6 l6 m6 o6=>zay rfl (zaG (new:=[slV H4.length es.length]) o6 (by simp) (by simp [Value.oneCell']) rfl fun H7 b7 o7=>?_)))
 have o5:Own H5 H4.length 2 (LI (List.replicate es.length 0)):=by simpa using o5
 have ne7:∀ {q:Nat} {t:TypeId} {cs:List Value},Own H5 q t cs→Own H7 q t cs:=fun {q} {t} {cs} o=>b7.own (o.le l6) (by have:=o.lt;omega)
 have l47:H4.le H7:=b7.le (AHeap.le_trans l5 l6) l5.1
 have oG7:=o14.le l47
 have lB7:=AHeap.le_trans lB4 l47
 refine flRegion (n:=n) oG7 (by omega) (by omega) fun G s m a b lG hs hm ha hb nsm nsa nsb nma nmb nab os om oa ob=>?_
 unfold F142.B3
 refine zaf rfl fun G1 l1' m1' p1=>?_
 unfold F142.B2
 refine zaG (new:=[flV H2.length H3.length H5.length H.length a b H1.length G.length]) p1 (by simp) (by simp [Value.oneCell']) rfl fun G2 b2 p2=>?_
 have hls:=os.lt;have hlm:=om.lt;have hla:=oa.lt;have hlb:=ob.lt;have hlen7:=b7.len
 have g0:=lG.1
 have l0:H7.le G2:=b2.le (AHeap.le_trans lG l1') (by omega)
 have old:∀ {q:Nat} {t:TypeId} {cs:List Value},Own G q t cs→Own G2 q t cs:=fun {q} {t} {cs} o=>b2.own (o.le l1') (by have:=o.lt;omega)
 have hD:FlD B0 H4.length s m bC H2.length H3.length H5.length H.length a b H1.length G.length:=by
  have:=lB.1
  refine ⟨fun x hx=>?_,⟨by omega,by omega,by omega,nsm,by omega,by omega⟩,fun x hx hy=>?_⟩
  ·simp only [List.mem_cons,List.not_mem_nil,or_false] at hx
   omega
  ·simp only [List.mem_cons,List.not_mem_nil,or_false] at hx hy
   omega
 unfold F142.B1
 refine zab p2 rfl (zaJ ?_)
 refine ztc (B0:=B0) (v:=v) (vE:=vE) (vv:=vv) (E:=E) hg hEd hE hEr hv hD h30 E.length 0 G2 _ (List.replicate es.length 0) (fun _=>0) (fun _=>3) 0 (by omega)
  ⟨((o3.le l4).le l47).le l0,(o4.le l47).le l0,o7.le l0,oG7.le l0,old oa,old ob,(((o2.le l3).le l4).le l47).le l0,p2,AHeap.le_trans lB7 l0⟩ ((ne7 o5).le l0) (by simp) (by rw [← zxl];exact old os) (fun _=>by decide) (by rw [← zxl];exact old om) (fun _=>by omega)
  ((((((oC.le l1).le l2).le l3).le l4).le l47).le l0) (by omega) fun G3 L3 k3 _ _ _ _ oC3=>zai ?_
 refine k G3 ⟨?_,fun q o hq ho=>k3.old q o ?_ (l0.2 q o (l47.2 q o (l4.2 q o (l3.2 q o (l2.2 q o (l1.2 q o ho))))))⟩ ?_
 ·have:=k3.len;have:=l0.1;have:=l47.1;omega
 ·have:=zaj ho
  simp only [List.mem_cons,List.not_mem_nil,or_false]
  omega
 ·rw [List.drop_zero,Nat.zero_add] at oC3
  exact oC3
theorem zwS (k:∀ v' G,H.le G→Fresh H.length G v' 2 1 (LI [1,2,3])→K v' G):AC Tryz.prog T0 144 [.int .i64 1,.int .i64 3] H K:=by
 apply F144.ac
 unfold F144.B9 F144.B8 F144.B7 F144.L2
 refine ⟨fun x1 x5 x6 G=>(3:Int)=x1∧H.le G∧∃ t:Nat,x6=(t:Int)+1∧t≤3∧Fresh H.length G x5 2 1 (LI (([1,2,3]:List Int).take t)),fun _ _ x6 _=>4-x6.toNat,⟨rfl,AHeap.le_refl _,0,rfl,by omega,.inl ⟨rfl,.inl rfl⟩⟩,?_⟩
 rintro x1 x5 x6 G ⟨rfl,lG,t,rfl,ht,f5⟩
 unfold F144.B6
 refine zaa (fun hb=>?_) fun hb=>?_
 ·have ht3:t<3:=by have:=of_decide_eq_true hb;omega
  unfold F144.B5
  refine zay (by simp;omega) ?_
  unfold F144.B4
  refine f5.sl.pushN zbl (by decide) lG.1 (n:=1) (ys:=[.int .i64 ((t:Int)+1)]) rfl rfl (by simp;omega) (by simp) fun v3 G4 k4 _ _ f4=>?_
  unfold F144.B3
  rw [zad (by omega) (by omega)]
  refine ⟨⟨rfl,k4.le lG (Nat.le_refl _),t+1,by omega,by omega,?_⟩,by show 4-((t:Int)+1+1).toNat<4-((t:Int)+1).toNat;omega⟩
  have:t=0∨t=1∨t=2:=by omega
  rcases this with rfl|rfl|rfl <;> exact f4
 ·have ht3:t=3:=by have:=of_decide_eq_false hb;omega
  subst ht3
  unfold F144.B1
  exact k x5 G lG f5
theorem zt8 (k:∀ vv G,H.le G→Ints G vv [1,2,3]→K (.agg ⟨[vv,chV,ceV]⟩) G):AC Tryz.prog T0 86 [] H K:=by
 apply F86.ac
 unfold F86.B2
 refine zaf rfl fun H1 l1 n1 o1=>?_
 unfold F86.B1
 refine zwS fun vv G lG fv=>?_
 have hv1:=za2 fv.ints
 have hlt:=o1.lt
 refine zay hv1 (zaG (new:=[vv,chV,ceV]) (o1.le lG) (by simp) (List.all_eq_true.1 (ztH hv1)) rfl fun G2 b2 o2=>zab o2 rfl (zab o2 rfl (zab o2 rfl ?_)))
 exact k vv G2 (b2.le (AHeap.le_trans l1 lG) (Nat.le_refl _)) (fv.but b2 (by omega)).ints
theorem zlJ (h:Edges H v es) (hg:IsG n es) (hv:Ints H vv [1,2,3]) (k:∀ G,H.le G→K (.tuple ⟨[.int .i64 (if n>12 then 0 else ((flC es n.toNat:Nat):Int)),.int .i64 (if n>12 then 3 else 0)]⟩) G) :
 AC Tryz.prog T0 85 [.agg ⟨[.int .i64 n,v]⟩,.agg ⟨[vv,chV,ceV]⟩] H K:=by
 have n0:=hg.ed.lo;have n1:=hg.ed.hi
 have h30:es.length≤30:=by have:=hg.ed.len;omega
 have p30:(3:Nat)^30=205891132094649:=by decide
 apply F85.ac
 unfold F85.B13
 refine zaf (zak (zah h)) fun H1 l1 n1' o1=>zaf (ztH (za2 hv)) fun H2 l2 n2' o2=>?_
 have l02:=AHeap.le_trans l1 l2
 have o12:=o1.le l2
 unfold F85.B12
 refine zac o12 rfl (zaa (fun hb=>?_) fun hb=>?_)
 ·unfold F85.B11
  rw [if_pos (of_decide_eq_true hb),if_pos (of_decide_eq_true hb)] at k
  exact k H2 l02
 rw [if_neg (of_decide_eq_false hb),if_neg (of_decide_eq_false hb)] at k
 unfold F85.B10 F85.B9
 refine zac o12 rfl (zab o12 rfl (zhj (h.le l02) hg fun x14 H3 l3 hR=>?_))
 have l03:=AHeap.le_trans l02 l3
 have o13:=o12.le l3
 have o23:=o2.le l3
 have hpl:=zeV (es:=es) n.toNat
 have hsn:=zgm es n.toNat
 refine hR.len ?_
 unfold F85.L2
 refine ⟨fun x2 x3 x6 y14 x15 x16 G=>H.length=x2∧H1.length=x3∧x14=y14∧(((partL es n.toNat).length:Nat):Int)=x15∧H3.le G∧∃ i:Nat,x16=i∧i≤(partL es n.toNat).length∧x6=(flTC es n.toNat i:Nat),fun _ _ _ _ _ x16 _=>(partL es n.toNat).length-x16.toNat,⟨rfl,rfl,rfl,rfl,AHeap.le_refl _,0,rfl,by omega,rfl⟩,?_⟩
 rintro x2 x3 x6 y14 x15 x16 G ⟨rfl,rfl,rfl,rfl,lG,i,rfl,hi,rfl⟩
 have l0G:=AHeap.le_trans l03 lG
 have o1G:=o13.le lG
 have o2G:=o23.le lG
 have hRG:=hR.le lG
 unfold F85.B8
 refine zaa (fun hb=>?_) fun hb=>?_
 ·have hlt:i<(partL es n.toNat).length:=by have:=of_decide_eq_true hb;omega
  have hE:(partL es n.toNat).getD i []∈partL es n.toNat:=by rw [zae hlt];exact List.getElem_mem hlt
  have hsucc:=zsN hlt
  have hle1:=zyf hg (i+1)
  obtain ⟨E,hEe⟩:∃ E,E=(partL es n.toNat).getD i []:=⟨_,rfl⟩
  rw [← hEe] at hE hsucc
  have hEr:∀ x∈E,0≤x∧x<es.length:=fun x hx=>by
   unfold partL at hE
   obtain ⟨w,_,rfl⟩:=List.mem_map.1 hE
   exact zbX hx
  have hEl:E.length≤es.length:=by
   unfold partL at hE
   obtain ⟨w,_,rfl⟩:=List.mem_map.1 hE
   exact zas _ _
  unfold F85.B7
  refine hRG.row hlt fun y fy=>?_
  rw [← hEe] at fy
  unfold F85.B6
  refine zaf rfl fun G1 g1 m1 p1=>?_
  unfold F85.B5
  refine zac (o1G.le g1) rfl (zab (o1G.le g1) rfl (zab (o2G.le g1) rfl (zab (o2G.le g1) rfl (zab (o2G.le g1) rfl (zwl (B0:=G) hg (h.le l0G) fy.ints hEr (hv.le l0G) (by omega) g1 (Nat.le_refl _) p1 fun G2 k2 oC2=>zai ?_)))))
  have g2:G.le G2:=k2.le g1 (Nat.le_refl _)
  unfold F85.B4
  refine zac oC2 rfl ?_
  unfold F85.B3
  have hw:IntKind.i64.wrap (((flTC es n.toNat i:Nat):Int)*((flP es E:Nat):Int))=((flTC es n.toNat (i+1):Nat):Int):=by
   have e:((flTC es n.toNat i:Nat):Int)*((flP es E:Nat):Int)=((flTC es n.toNat (i+1):Nat):Int):=by rw [hsucc,Int.natCast_mul]
   rw [e];exact zad (by omega) (by omega)
  rw [hw,zad (by omega) (by omega)]
  exact ⟨⟨rfl,rfl,rfl,rfl,AHeap.le_trans lG g2,i+1,by omega,by omega,rfl⟩,by simp;omega⟩
 ·have hie:i=(partL es n.toNat).length:=by have:=of_decide_eq_false hb;omega
  subst hie
  unfold F85.B1
  rw [zw4]
  exact k G l0G
noncomputable def pfCode (n:Int) (es:List (Int × Int)):Int:=if IsG n es then (if n>12 then 3 else 0) else 1
noncomputable def pfVal (n:Int) (es:List (Int × Int)):Int:=if IsG n es then (if n>12 then 0 else ((flC es n.toNat:Nat):Int)) else 0
theorem zAL {c:List Int} (hc:IsC es c) (h:pfCode n es=0):¬ pfVal n es<6:=by
 unfold pfCode at h
 by_cases hg:IsG n es
 ·rw [if_pos hg] at h
  by_cases h12:n>12
  ·rw [if_pos h12] at h;cases h
  ·unfold pfVal
   rw [if_pos hg,if_neg h12]
   have:=zzs hg hc
   omega
 ·rw [if_neg hg] at h;cases h
theorem zni (h:Edges H v es) (hl:es.length≤1048576) (k:∀ G,H.le G→K (.tuple ⟨[.int .i64 (pfVal n es),.int .i64 (pfCode n es)]⟩) G):AC Tryz.prog T0 28 [.agg ⟨[.int .i64 n,v]⟩] H K:=by
 apply F28.ac
 unfold F28.B5
 refine zaf (zak (zah h)) fun H1 l1 n1 o1=>?_
 unfold F28.B4
 refine zac o1 rfl (zab o1 rfl (zaA (h.le l1) hl fun H2 l2=>zag ?_))
 have l12:=AHeap.le_trans l1 l2
 have o2:=o1.le l2
 unfold pfVal pfCode at k
 unfold F28.B3
 by_cases hg:IsG n es
 ·rw [if_pos hg,if_pos hg] at k
  rw [if_pos hg]
  refine zaz rfl ?_
  unfold F28.B1
  refine zac o2 rfl (zab o2 rfl (zt8 fun vv G lG hv=>zyV ⟨lG,zlJ ((h.le l12).le lG) hg hv fun G3 l3=>zaB (zag (zag ?_))⟩))
  exact k G3 (AHeap.le_trans (AHeap.le_trans l12 lG) l3)
 ·rw [if_neg hg,if_neg hg] at k
  rw [if_neg hg]
  refine zay rfl ?_
  unfold F28.B2
  exact k H2 l12
end Go.Proofs
namespace Go.Proofs
open Go.Abs

variable {H G G' Hb H0:AHeap} {v u f w:Value} {l m D:List Int} {es fs:List (Int × Int)} {K:Value→AHeap→Prop} {bs:Nat} {n:Int}

theorem zcW {t:TypeId} {z:Nat} {cs:List Value} (h:Sl (bs+1) H v t z cs) (k:Kb bs H G):Sl (bs+1) G v t z cs:=by
 rcases h with h|⟨b,n,pre,post,h1,h2,h3,h4⟩
 ·exact .inl h
 ·exact .inr ⟨b,n,pre,post,h1,h2,k.old b _ (by omega) h3,h4⟩
theorem zbN {m0:Nat} {t:TypeId} {z:Nat} {cs:List Value} (h:Sl m0 H v t z cs):v.oneCell'=true:=by
 rcases h with ⟨_,rfl|⟨a,rfl⟩⟩|⟨b,n,pre,post,_,rfl,_⟩ <;> rfl
theorem zyC:∀ (l:List (Int × Int)),(LE l).drop 2=LE (l.drop 1)
 | []=>rfl
 | x::l=>rfl
theorem zk3 {m0:Nat} {r a b:Int} {K:AHeap→Prop} (f:Fresh m0 G v 66 2 (LE es)) (h0:0≤r) (h1:r<es.length) (k:∀ c G',m0≤c→bk v=some c→But c G G'→Fresh m0 G' v 66 2 (LE (es.set r.toNat (a,b)))→K G') :
 idxK v r 2 (fun bb oo=>stK G bb oo [.int .i64 a,.int .i64 b] K):=by
 have hlt:r.toNat<es.length:=by omega
 rcases f with ⟨h,_⟩|⟨c,q,hc,rfl,o,hq⟩
 ·have:=congrArg List.length h
  rw [zaI,List.length_nil] at this;omega
 ·have hqe:q=es.length:=by rw [zaI] at hq;omega
  subst hqe
  refine zlb h0 h1 (zaG o (by rw [zaI];simp;omega) (by simp [Value.oneCell']) (znf es (a,b) hlt) fun G' b' o'=>k c G' hc rfl b' (.inr ⟨c,es.length,hc,rfl,o',by rw [zaI,List.length_set]⟩))
structure BdS (Hb H:AHeap) (bs:Nat) (n:Int) (v:Value) (es:List (Int × Int)) (x5:Value) (fs:List (Int × Int)) (G:AHeap):Prop where
 kb:Kb bs H G
 s:Src Hb bs G
 o3:Own G H.length 26 [.int .i64 n,v]
 o4:Own G (H.length+1) 26 [.int .i64 0,.slice none 0 0]
 f:Fresh (H.length+2) G x5 66 2 (LE fs)
 lt:bs<H.length
theorem BdS.step {x5:Value} (h:BdS Hb H bs n v es x5 fs G) (k:Kb bs G G') (s:Src Hb bs G'):BdS Hb H bs n v es x5 fs G':=
 ⟨h.kb.trans k,s,k.own h.o3 (by have:=h.lt;omega),k.own h.o4 (by have:=h.lt;omega),zaC h.f k (by have:=h.lt;omega),h.lt⟩
theorem BdS.le {x5:Value} (h:BdS Hb H bs n v es x5 fs G) (l:G.le G'):BdS Hb H bs n v es x5 fs G':=h.step (.of_le l) (h.s.le l)
theorem BdS.but {x5:Value} {c:Nat} {fs':List (Int × Int)} (h:BdS Hb H bs n v es x5 fs G) (b:But c G G') (hc:H.length+2≤c) (f:Fresh (H.length+2) G' x5 66 2 (LE fs')):BdS Hb H bs n v es x5 fs' G':=
 ⟨h.kb.but b (by omega),h.s.but b (by have:=h.lt;omega),b.own h.o3 (by omega),b.own h.o4 (by omega),f,h.lt⟩
theorem BdS.reread {x5:Value} (h:BdS Hb H bs n v es x5 fs G):ldI .i64 G H.length 0 (fun v7=>((Value.int .i64 v7)=(Value.int .i64 n))∧(G=G)):=zac h.o3 rfl ⟨rfl,rfl⟩
def BadK (Hb H:AHeap) (bs:Nat) (v:Value) (K:Value→AHeap→Prop):Prop:=∀ v' n' es' G,Kb bs H G→Src Hb bs G→Sl (bs+1) G v' 66 2 (LE es')→(∀ b,bk v'=some b→bk v=some b∨H.length≤b)→es'.length≤2000→-2≤n'→n'≤202→K (.agg ⟨[.int .i64 n',v']⟩) G
theorem zo0 {x5:Value} {n':Int} {gs:List (Int × Int)} (k:BadK Hb H bs v K) (h:BdS Hb H bs n v es x5 fs G) (hs:Sl (bs+1) G w 66 2 (LE gs)) (hw:bk w≠some (H.length+1)) (hv:∀ b,bk w=some b→bk v=some b∨H.length≤b) (hl:gs.length≤2000) (h0:-2≤n') (h1:n'≤202) :
 stK G (H.length+1) 0 [.int .i64 n',w] (fun H7=>ldI .i64 H7 (H.length+1) 0 (fun v8=>ld1 H7 (H.length+1) 1 (fun v9=>K (.agg ⟨[.int .i64 v8,v9]⟩) H7))):=by
 have hbs:=h.lt
 exact zcB h.s h.kb (by omega) (by omega) h.o4 (zbN hs) fun G9 b9 kb9 s9=>k w n' gs G9 kb9 s9 (zn8 hs b9 hw) hv hl h0 h1
theorem ztg {x5 y:Value} {gs:List (Int × Int)} (k:BadK Hb H bs v K) (h:BdS Hb H bs n v es x5 fs G) (hs:Sl (H.length+2) G y 66 2 (LE gs)) (hl:gs.length≤2000) (h0:2≤n) (h1:n≤200):F62.B1 K H.length (H.length+1) y G:=by
 have hbs:=h.lt
 unfold F62.B1
 refine zac h.o3 rfl (zay (zbN hs) (zo0 k h (hs.less (by omega)) (fun e=>by have:=(hs.lt e).1;omega) (fun b e=>.inr (by have:=(hs.lt e).1;omega)) hl (by omega) (by omega)))
theorem zbj (hs:Src Hb bs H) (h:Sl (bs+1) H v 66 2 (LE es)) (hg:Gd2 n es) (k:BadK Hb H bs v K) :
 AC Tryz.prog T0 62 [.pointer (some ⟨bs,0,none⟩),.agg ⟨[.int .i64 n,v]⟩] H K:=by
 have hbs:=hs.lt
 have gl:=hg.len;have gp:=hg.pos;have n0:=hg.lo;have n1:=hg.hi
 have hE:=zbg h
 apply F62.ac
 unfold F62.B15
 refine zaf (zak (zah hE)) fun H1 l1 m1 o1=>zaf rfl fun H2 l2 m2 o2=>?_
 rw [m1] at o2 ⊢
 have o12:=o1.le l2
 have l02:=AHeap.le_trans l1 l2
 unfold F62.B14
 refine zaf rfl fun H4 l4 n4 o4=>zab (o12.le l4) rfl ?_
 have l04:=AHeap.le_trans l02 l4
 have e2:H2.length=H.length+2:=by rw [m2,m1]
 refine zd1 (m0:=H2.length) (es:=[]) (Fresh.sl (.inr ⟨_,0,Nat.le_refl _,rfl,o4,rfl⟩)) l4.1 (hE.le l04) gp (by simp;omega) fun x5 H5 k5 _ f5=>?_
 rw [List.nil_append] at f5
 have kp:=(Keep.of_le l4).trans k5
 have l05:H.le H5:=kp.le l02 l02.1
 unfold F62.B13
 have st5:BdS Hb H bs n v es x5 es H5:=⟨.of_le l05,hs.le l05,kp.own o12 o12.lt,kp.own o2 o2.lt,by rw [e2] at f5;exact f5,hbs⟩
 refine zav st5.s fun r G1 k1 s1 r0 r1 _=>zag ?_
 have st:=st5.step k1 s1
 have hvG:=zcW (h.le l05) k1
 have fin2:∀ G (r a b:Int),BdS Hb H bs n v es x5 es G→0≤r→r<es.length→idxK x5 r 2 (fun bb oo=>stK G bb oo [.int .i64 a,.int .i64 b] (fun H20=>F62.B1 K H.length (H.length+1) x5 H20)):=fun G r a b hS h0 h1=>
  zk3 hS.f h0 h1 fun c G' hc _ b' f'=>ztg k (hS.but b' hc f') f'.sl (by rw [List.length_set];exact gl) n0 n1
 unfold F62.B12
 refine zaa (fun hb=>?_) fun hb=>?_
 ·unfold F62.B2
  refine zac st.o3 rfl ?_
  rw [zad (by omega) (by omega)]
  refine zaf rfl fun G2 l2 n2 o2=>?_
  have hG1:=st.o4.lt
  refine zbf (l:=[0,3,22,-2,n+2]) (st.le l2).s (zau (l:=[0,3,22,-2,n+2]) o2) (by simp) (by simp) (fun x hx=>by simp at hx;omega) (fun G3 k3=>zau (l:=[0,3,22,-2,n+2]) (k3.own o2 (by omega))) fun r' G3 k3 s3 hr=>zag ?_
  have hr:-2≤r'∧r'≤202:=by simp at hr;omega
  have st3:=(st.le l2).step k3 s3
  refine zay (zaw st3.f) (zo0 k st3 (st3.f.sl.less (by omega)) (fun e=>by have:=(st3.f.bk_lt e).1;omega) (fun b e=>.inr (by have:=(st3.f.bk_lt e).1;omega)) gl hr.1 hr.2)
 unfold F62.B11
 refine zaa (fun hb=>?_) fun hb=>?_
 ·unfold F62.B3
  have hG1:=st.o4.lt
  have hlen:∀ {K:Nat→Prop},K es.length→lenK x5 K:=fun k'=>st.f.edges.len k'
  have pk:∀ {G2:AHeap} {b:Nat},Own G2 b 2 [.int .i64 (-1),.int .i64 n,.int .i64 0]→b≠bs→BdS Hb H bs n v es x5 es G2→∀ (Q:Value→AHeap→Prop),(∀ r' G3,BdS Hb H bs n v es x5 es G3→Q (.int .i64 r') G3)→AC Tryz.prog T0 78 [.pointer (some ⟨bs,0,none⟩),.slice (some ⟨b,0,none⟩) 3 (3+1)] G2 Q:=fun {G2 b} o hb st2 Q hQ=>by
   refine zbf (l:=[-1,n,0]) st2.s (zau (l:=[-1,n,0]) o) (by simp) (by simp) (fun x hx=>by simp at hx;omega) (fun G3 k3=>zau (l:=[-1,n,0]) (k3.own o hb)) fun r' G3 k3 s3 hr=>hQ r' G3 (st2.step k3 s3)
  refine hlen (zac st.o3 rfl (zac st.o3 rfl ⟨?_,?_⟩))
  ·refine zav st.s fun q G2 k2 s2 q0 q1 _=>zag ?_
   have st2:=st.step k2 s2
   have hq:=q1 (by omega)
   refine ⟨st2.reread,st2.reread,⟨?_,?_⟩⟩
   ·refine zav st2.s fun a G3 k3 s3 a0 a1 _=>zag ?_
    have st3:=st2.step k3 s3
    refine ⟨st3.reread,zaf rfl fun G4 l4 n4 o4=>pk o4 (by have:=st3.o4.lt;omega) (st3.le l4) _ fun r' G5 st5=>zag (fin2 G5 q a r' st5 q0 hq)⟩
   ·refine zaf rfl fun G4 l4 n4 o4=>?_
    have st4:=st2.le l4
    refine zav st4.s fun a G3 k3 s3 a0 a1 _=>zag ?_
    have st3:=st4.step k3 s3
    have hne:G2.length≠bs:=by have:=st2.o4.lt;omega
    exact ⟨st3.reread,pk (k3.own o4 hne) hne st3 _ fun r' G5 st5=>zag (fin2 G5 q a r' st5 q0 hq)⟩
  ·refine zaf rfl fun G4 l4 n4 o4=>?_
   have st4:=st.le l4
   have hne:G1.length≠bs:=by have:=st.o4.lt;omega
   refine zav st4.s fun q G2 k2 s2 q0 q1 _=>zag ?_
   have st2:=st4.step k2 s2
   have hq:=q1 (by omega)
   refine ⟨st2.reread,st2.reread,zav st2.s fun a G3 k3 s3 a0 a1 _=>zag ?_⟩
   have st3:=st2.step k3 s3
   exact ⟨st3.reread,pk (k3.own (k2.own o4 hne) hne) hne st3 _ fun r' G5 st5=>zag (fin2 G5 q a r' st5 q0 hq)⟩
 unfold F62.B10
 refine zaa (fun hb=>?_) fun hb=>?_
 ·have eG:=st.f.edges
  unfold F62.B6
  obtain ⟨bb,oo,hk,q1,q2⟩:=eG.idx (show (0:Int)≤0 by omega) (by omega)
  refine hk _ (zap q1 (zap q2 (zaf rfl fun G2 l2 n2 o2=>zaG (new:=[.int .i64 (es.getD 0 (0,0)).1,.int .i64 (es.getD 0 (0,0)).2]) o2 (by simp) (by simp [Value.oneCell']) rfl fun G3 b3 o3=>?_)))
  have l3:G1.le G3:=b3.le l2 (Nat.le_refl _)
  have st3:=st.le l3
  have hlen3:∀ {K:Nat→Prop},K es.length→lenK x5 K:=fun k'=>st.f.edges.len k'
  have hx6:=st.o4.lt
  unfold F62.B5
  refine hlen3 ?_
  rw [zad (by omega) (by omega)]
  obtain ⟨bb,oo,hk,q1,q2⟩:=st3.f.edges.idx (show (0:Int)≤(es.length:Int)-1 by omega) (by omega)
  refine hk _ (zap q1 (zap q2 (zk3 st3.f (by omega) (by omega) fun c G4 hc hcb b4 f4=>?_)))
  have st4:=st3.but b4 hc f4
  have o6:=b4.own o3 (by have:=(st.f.bk_lt hcb).2;omega)
  ·unfold F62.B4
   refine f4.edges.len (zac o6 rfl (zac o6 rfl ?_))
   rw [List.length_set,zad (by omega) (by omega)]
   exact zk3 f4 (by omega) (by rw [List.length_set];omega) fun c G' hc _ b' f'=>ztg k (st4.but b' hc f') f'.sl (by rw [List.length_set,List.length_set];exact gl) n0 n1
 unfold F62.B9
 refine zaa (fun hb=>?_) fun hb=>?_
 ·unfold F62.B7
  refine st.f.sl.drop (i:=1) (n:=es.length) (zaI es) (by decide) gp gp fun v' h'=>?_
  rw [Nat.one_mul,zyC] at h'
  exact ztg k st h' (by rw [List.length_drop];omega) n0 n1
 ·unfold F62.B8
  refine zac st.o3 rfl (zab st.o3 rfl (zo0 k st hvG (fun e=>by have:=(h.lt e).2;omega) (fun b e=>.inl e) gl (by omega) (by omega)))
theorem zcF (hs:Src Hb bs H) (k:∀ v' n' es' G,Kb bs H G→Src Hb bs G→Sl H.length G v' 66 2 (LE es')→es'.length≤2000→-2≤n'→n'≤202→K (.agg ⟨[.int .i64 n',v']⟩) G):AC Tryz.prog T0 64 [.pointer (some ⟨bs,0,none⟩)] H K:=by
 have hbs:=hs.lt
 apply F64.ac
 unfold F64.B2
 refine zaf rfl fun H1 l1 n1 o1=>?_
 unfold F64.B1
 refine zcH (hs.le l1) fun v1 n1' es1 G1 k1 s1 f1 g1=>zax (zag ?_)
 have hk1:=k1.len
 refine zbj s1 (f1.sl.less (by omega)) g1 fun v2 n2 es2 G2 k2 s2 h2 hv c2 a0 a1=>zax (zag ?_)
 have kb2:=((Kb.of_le l1).trans k1).trans k2
 have hne:∀ b,bk v2=some b→H1.length≤b:=fun b hb=>by
  rcases hv b hb with e|e
  ·exact (f1.bk_lt e).1
  ·omega
 refine zcB s2 kb2 hbs (Nat.le_refl _) (k2.own (k1.own o1 (by omega)) (by omega)) (zbN h2) fun G9 b9 kb9 s9=>?_
 have h9:=zn8 h2 b9 (fun e=>by have:=hne _ e;omega)
 refine k v2 n2 es2 G9 kb9 s9 ?_ c2 a0 a1
 rcases h9 with h|⟨b,q,pre,post,q1,rfl,q3,q4⟩
 ·exact .inl h
 ·exact .inr ⟨b,q,pre,post,by have:=hne b rfl;omega,rfl,q3,q4⟩
end Go.Proofs
namespace Go.Proofs
open Go.Abs

variable {H G G' Hb H0:AHeap} {v u f w:Value} {l m D:List Int} {es fs:List (Int × Int)} {K:Value→AHeap→Prop} {bs:Nat} {n:Int}

theorem za1 {x2 m0:Nat} (o:Own G x2 26 [.int .i64 0,.slice none 0 0]) (l:H.le G) (hx:H.length≤x2) (hs:Sl m0 G v 66 2 (LE es)) (hm:x2<m0) (k:∀ G',But x2 G G'→H.le G'→Sl m0 G' v 66 2 (LE es)→K (.agg ⟨[.int .i64 n,v]⟩) G') :
 stK G x2 0 [.int .i64 n,v] (fun H7=>ldI .i64 H7 x2 0 (fun v8=>ld1 H7 x2 1 (fun v9=>K (.agg ⟨[.int .i64 v8,v9]⟩) H7))):=by
 refine zaG (new:=[.int .i64 n,v]) o (by simp) (zaT (zbN hs)) rfl fun G5 b5 o5=>zac o5 rfl (zab o5 rfl ?_)
 exact k G5 b5 (b5.le l hx) (hs.but b5 hm)
def DrwK (H:AHeap) (K:Value→AHeap→Prop):Prop:=∀ v n es G,H.le G→Sl H.length G v 66 2 (LE es)→es.length≤2000→K (.agg ⟨[.int .i64 n,v]⟩) G
end Go.Proofs
namespace Go.Proofs
open Go.Abs

variable {H G G' Hb H0:AHeap} {v u f w:Value} {l m D:List Int} {es fs:List (Int × Int)} {K:Value→AHeap→Prop} {bs:Nat} {n:Int}

theorem Kb.keep (h:Kb bs H G) (k:Keep H.length G G'):Kb bs H G':=⟨Nat.le_trans h.len k.len,fun q o hq ho=>k.old q o (zaj ho) (h.old q o hq ho)⟩
theorem Src.keep {m0:Nat} (h:Src Hb bs G) (k:Keep m0 G G') (hm:bs<m0):Src Hb bs G':=by
 obtain ⟨h1,h2,cv,l,a,y,h3,h4,h5,h6,h7⟩:=h
 exact ⟨k.le h1 (by omega),h2,cv,l,a,y,h3,h4,k.own h5 hm,h6,h7⟩
theorem zca {few:Int} (hs:Src Hb bs H) (hn:0≤n∧n≤3000) (k:∀ v' l G,Kb bs H G→Src Hb bs G→Fresh H.length G v' 2 1 (LI l)→l.length≤n.toNat+1→K v' G) :
 AC Tryz.prog T0 61 [.pointer (some ⟨bs,0,none⟩),.int .i64 n,.int .i64 few] H K:=by
 have hbs:=hs.lt
 apply F61.ac
 unfold F61.B11 F61.B10
 refine zaf rfl fun H1 l1 n1 o1=>?_
 unfold F61.B9 F61.L4
 refine ⟨fun x0 x1 x2 x7 x8 G=>.pointer (some ⟨bs,0,none⟩)=x0∧n=x1∧few=x2∧Kb bs H G∧Src Hb bs G∧∃ (i:Nat) (l:List Int),x8=i∧i≤n.toNat∧Fresh H.length G x7 2 1 (LI l)∧l.length≤i,fun _ _ _ _ x8 _=>n.toNat-x8.toNat,
  ⟨rfl,rfl,rfl,.of_le l1,hs.le l1,0,[],rfl,by omega,.inr ⟨_,0,Nat.le_refl _,rfl,o1,rfl⟩,by simp⟩,?_⟩
 rintro x0 x1 x2 x7 x8 G ⟨rfl,rfl,rfl,kb,s,i,l,rfl,hi,hF,hl⟩
 unfold F61.B8
 refine zaa (fun hb=>?_) fun hb=>?_
 ·have hlt:i<n.toNat:=by have:=of_decide_eq_true hb;omega
  unfold F61.B7
  refine zav s fun r G1 k1 s1 r0 r1 _=>zag ?_
  have hF1:=zaC hF k1 hbs
  have kb1:=kb.trans k1
  refine zaa (fun hc=>?_) fun hc=>?_
  ·unfold F61.B6
   refine hF1.sl.pushN zbl (by decide) kb1.len (n:=1) (ys:=[.int .i64 (i:Int)]) rfl rfl (by simp;omega) (by simp) fun v3 G4 k4 _ _ f4=>?_
   unfold F61.B5
   rw [zad (by omega) (by omega)]
   exact ⟨⟨rfl,rfl,rfl,kb1.keep k4,s1.keep k4 hbs,i+1,l++[(i:Int)],by omega,by omega,by simpa using f4,by simp;omega⟩,by simp;omega⟩
  ·unfold F61.B5
   rw [zad (by omega) (by omega)]
   exact ⟨⟨rfl,rfl,rfl,kb1,s1,i+1,l,by omega,by omega,hF1,by omega⟩,by simp;omega⟩
 ·unfold F61.B3
  refine zav s fun r G1 k1 s1 r0 r1 _=>zag ?_
  have hF1:=zaC hF k1 hbs
  have kb1:=kb.trans k1
  refine zaa (fun hc=>?_) fun hc=>?_
  ·unfold F61.B2
   refine zaf rfl fun G2 l2 n2 o2=>?_
   have hs1:=s1.lt
   refine zbf (l:=[0,-1,n]) (s1.le l2) (zau (l:=[0,-1,n]) o2) (by simp) (by simp) (fun x hx=>by simp at hx;omega) (fun G3 k3=>zau (l:=[0,-1,n]) (k3.own o2 (by omega))) fun r' G3 k3 s3 hr=>zag ?_
   have hF3:=zaC (hF1.le l2) k3 hbs
   have kb3:=(kb1.trans (.of_le l2)).trans k3
   refine hF3.sl.pushN zbl (by decide) kb3.len (n:=1) (ys:=[.int .i64 r']) rfl rfl (by simp;omega) (by simp) fun v3 G4 k4 _ _ f4=>?_
   unfold F61.B1
   exact k v3 (l++[r']) G4 (kb3.keep k4) (s3.keep k4 hbs) (by simpa using f4) (by simp;omega)
  ·unfold F61.B1
   exact k x7 l G1 kb1 s1 hF1 (by omega)
structure FarN (B N:Nat) (D:List Int):Prop where
 len:D.length=N
 rng:∀ w,w<N→-1≤D.getD w 0∧D.getD w 0+unseen (farB D) N≤B
theorem FarN.set {B N x y:Nat} (h:FarN B N D) (hx:farB D x=true) (hy:y<N) (hf:farB D y=false):FarN B N (D.set y (D.getD x 0+1)):=by
 have hl:=h.len
 have hxl:=zeP hx
 have hx0:=(zbH hxl).1 hx
 have hu:=za5 (S:=farB D) hy hf
 refine ⟨by simp [hl],fun w hw=>?_⟩
 rw [zgd (by omega) (by omega)]
 by_cases e:y=w
 ·subst e
  rw [zao (by omega)]
  have:=h.rng x (by omega)
  omega
 ·rw [zam e]
  have:=h.rng w hw
  omega
def FarP (es:List (Int × Int)) (a:Nat) (w0:Int) (D:List Int):Prop:=(farB D a=true∧D.getD a 0=0)∧∀ y,farB D y=true→y=a∨∃ e x:Nat,e<es.length∧(e:Int)≠w0∧on (es.getD e (0,0)) (y:Int)=true∧(es.getD e (0,0)).1+(es.getD e (0,0)).2-(y:Int)=x∧farB D x=true∧D.getD y 0=D.getD x 0+1
theorem FarP.set {a e x y:Nat} {w0:Int} (h:FarP es a w0 D) (hx:farB D x=true) (hy:y<D.length) (hf:farB D y=false) (he:e<es.length) (hw:(e:Int)≠w0) (ho:on (es.getD e (0,0)) (y:Int)=true) (hxy:(es.getD e (0,0)).1+(es.getD e (0,0)).2-(y:Int)=x):FarP es a w0 (D.set y (D.getD x 0+1)):=by
 have hx0:=(zbH (zeP hx)).1 hx
 have fb:farB (D.set y (D.getD x 0+1))=insB (farB D) y:=zgd hy (by omega)
 have ne:∀ {z},farB D z=true→y≠z:=fun {z} hz e'=>by rw [← e',hf] at hz;cases hz
 rw [FarP,fb]
 refine ⟨⟨zcC h.1.1,by rw [zam (ne h.1.1)];exact h.1.2⟩,fun z hz=>?_⟩
 by_cases e':z=y
 ·subst e'
  refine .inr ⟨e,x,he,hw,ho,hxy,zcC hx,?_⟩
  rw [zao hy,zam (ne hx)]
 ·have hz':=zeY hz e'
  rcases h.2 z hz' with h1|⟨e2,x2,g1,g2,g3,g4,g5,g6⟩
  ·exact .inl h1
  ·refine .inr ⟨e2,x2,g1,g2,g3,g4,zcC g5,?_⟩
   rw [zam (ne hz'),zam (ne g5)];exact g6
structure FarS (Pd:List Int→Prop) (N b7 m0:Nat) (x9:Value) (D:List Int) (L:List Nat) (G:AHeap):Prop where
 o:Own G b7 2 (LI D)
 far:FarN (N+1) N D
 f:Fresh m0 G x9 2 1 (LI (NI L))
 all:∀ x∈L,x<N∧farB D x=true
 cnt:L.length+unseen (farB D) N≤N
 ne:bk x9≠some b7
 p:Pd D
theorem zkd {a w0:Int} (h:Edges H v es) (hr:EdR n es) (hn:1≤n∧n≤1000) (hl:es.length≤2000) (ha:0≤a∧a<n) (k:∀ v' D G,H.le G→Fresh H.length G v' 2 1 (LI D)→D.length=n.toNat→FarP es a.toNat w0 D→(∀ w,w<n.toNat→-1≤D.getD w 0∧D.getD w 0≤n.toNat+1)→K v' G) :
 AC Tryz.prog T0 169 [.agg ⟨[.int .i64 n,v]⟩,.int .i64 a,.int .i64 w0] H K:=by
 apply F169.ac
 unfold F169.B23
 refine zaf (zak (zah h)) fun H1 l1 n1 o1=>?_
 unfold F169.B22
 refine zac o1 rfl (zaF (by omega) (by omega) (by decide) fun H2 l2 n2 o2=>?_)
 rw [zb3] at o2
 have o12:=o1.le l2
 have l02:=AHeap.le_trans l1 l2
 have hl1:=l1.1
 unfold F169.B21 F169.L17
 refine ⟨fun x1 x2 x3 x7 x8 G=>a=x1∧w0=x2∧H.length=x3∧.slice (some ⟨H1.length,0,none⟩) n.toNat (n.toNat+1)=x7∧But H1.length H2 G∧∃ (i:Nat) (D:List Int),x8=i∧i≤n.toNat∧D.length=n.toNat∧Own G H1.length 2 (LI D)∧∀ j,j<i→D.getD j 0=-1,fun _ _ _ _ x8 _=>n.toNat-x8.toNat,⟨rfl,rfl,rfl,rfl,⟨rfl,fun _ _=>rfl⟩,0,_,rfl,by omega,List.length_replicate,o2,fun j hj=>absurd hj (by omega)⟩,?_⟩
 rintro x1 x2 x3 x7 x8 G ⟨rfl,rfl,rfl,rfl,bG,i,D,rfl,hi,hDl,oD,hD⟩
 have lG:H.le G:=bG.le l02 l1.1
 have oG:=bG.own o12 (by omega)
 have hGl:=bG.len
 unfold F169.B20
 refine zac oG rfl (zaa (fun hb=>?_) fun hb=>?_)
 ·have hlt:i<n.toNat:=by have:=of_decide_eq_true hb;omega
  unfold F169.B19
  refine zan (by omega) (by omega) (zaO oD (by simp;omega) rfl fun G2 b2 p2=>?_)
  rw [Int.toNat_natCast,← List.map_set] at p2
  unfold F169.B18
  rw [zad (by omega) (by omega)]
  refine ⟨⟨rfl,rfl,rfl,rfl,⟨by rw [b2.len,bG.len],fun c hc'=>by rw [b2.same c hc',bG.same c hc']⟩,i+1,_,by omega,by omega,by simp [hDl],p2,fun j hj=>?_⟩,by simp;omega⟩
  by_cases e:i=j
  ·subst e;exact zao (by omega)
  ·rw [zam e];exact hD j (by omega)
 have hie:i=n.toNat:=by have:=of_decide_eq_false hb;omega
 subst hie
 obtain ⟨a,rfl⟩:∃ a':Nat,a=a':=⟨a.toNat,by omega⟩
 have haN:a<n.toNat:=by omega
 unfold F169.B16
 refine zan (by omega) (by omega) (zaO oD (by simp;omega) rfl fun G2 b2 p2=>?_)
 rw [Int.toNat_natCast,← List.map_set] at p2
 have lG2:H.le G2:=b2.le lG l1.1
 have oG2:=b2.own oG (by omega)
 have hG2l:=b2.len
 have D0:∀ w,w<n.toNat→(D.set a (0:Int)).getD w 0=if a=w then 0 else -1:=fun w hw=>by
  by_cases e:a=w
  ·subst e;rw [if_pos rfl];exact zao (by omega)
  ·rw [if_neg e,zam e];exact hD w hw
 have F0:∀ w,farB (D.set a (0:Int)) w=true↔w=a:=fun w=>by
  by_cases hw:w<n.toNat
  ·rw [zbH (by simp;omega),D0 w hw]
   by_cases e:a=w
   ·subst e;simp
   ·rw [if_neg e];exact ⟨fun h=>absurd h (by decide),fun h=>absurd h.symm e⟩
  ·exact ⟨fun h=>absurd (zeP h) (by simp;omega),fun h=>by omega⟩
 have hu:unseen (farB (D.set a (0:Int))) n.toNat+1=n.toNat:=by
  have e:unseen (farB (D.set a (0:Int))) n.toNat=unseen (insB (fun _=>false) a) n.toNat:=ze3 fun i _=>by
   unfold insB
   rw [Bool.eq_iff_iff,F0,Bool.false_or,decide_eq_true_iff]
   exact ⟨fun h=>h.symm,fun h=>h.symm⟩
  have e2:=za5 (S:=fun _=>false) haN rfl
  have e3:∀ k,unseen (fun _=>false) k=k:=fun k=>by
   induction k with
   | zero=>rfl
   | succ k ih=>rw [unseen,ih];rfl
  rw [e,e2,e3]
 unfold F169.B15
 refine zaf rfl fun G3 l3 n3 p3=>?_
 have st3:FarS (FarP es a w0) n.toNat H1.length G2.length (.slice (some ⟨G2.length,0,none⟩) 1 (1+1)) (D.set a 0) [a] G3:=by
  refine ⟨p2.le l3,⟨by simp [hDl],fun w hw=>?_⟩,.inr ⟨_,1,Nat.le_refl _,rfl,p3,rfl⟩,fun x hx=>?_,by simp;omega,fun e=>?_,⟨⟨(F0 a).2 rfl,by rw [D0 a haN,if_pos rfl]⟩,fun y hy=>.inl ((F0 y).1 hy)⟩⟩
  ·rw [D0 w hw];split <;> omega
  ·rw [List.mem_singleton] at hx;subst hx;exact ⟨haN,(F0 x).2 rfl⟩
  ·have:G2.length=H1.length:=Option.some.inj e
   have:=p2.lt;omega
 have lG3:=AHeap.le_trans lG2 l3
 have oG3:=oG2.le l3
 have hl2:=l2.1
 have o1l:=o1.lt
 clear p2 p3 D0 F0 hu
 unfold F169.B14 F169.L2
 refine ⟨fun x2 x3 x7 x9 x10 G=>w0=x2∧H.length=x3∧.slice (some ⟨H1.length,0,none⟩) n.toNat (n.toNat+1)=x7∧H.le G∧G2.length≤G.length∧Own G H.length 26 [.int .i64 n,v]∧∃ (i:Nat) (D:List Int) (L:List Nat),x10=i∧i≤L.length∧FarS (FarP es a w0) n.toNat H1.length G2.length x9 D L G,fun _ _ _ _ x10 _=>n.toNat-x10.toNat,⟨rfl,rfl,rfl,lG3,l3.1,oG3,0,_,_,rfl,by omega,st3⟩,?_⟩
 rintro x2 x3 x7 x9 x10 G4 ⟨rfl,rfl,rfl,lG4,hG4,oG4,i,D4,L4,rfl,hi,st⟩
 unfold F169.B13
 have hNL:(NI L4).length=L4.length:=by simp
 refine st.f.ints.len (zaa (fun hb=>?_) fun hb=>?_)
 ·have hlt:i<L4.length:=by rw [hNL] at hb;have:=of_decide_eq_true hb;omega
  have hcn:=st.cnt
  obtain ⟨x,hx⟩:∃ x,x=L4[i]:=⟨_,rfl⟩
  obtain ⟨hxN,hxf⟩:=st.all x (by rw [hx];exact List.getElem_mem hlt)
  have hxg:(NI L4).getD i 0=(x:Int):=by rw [zae (by rw [hNL];exact hlt),List.getElem_map,hx];rfl
  unfold F169.B12
  refine zac oG4 rfl (zab oG4 rfl (st.f.ints.rd (by omega) (by rw [hNL];omega) ?_))
  rw [Int.toNat_natCast,hxg]
  refine zcO (h.le lG4) (by omega) fun x11 G5 l5 f5=>?_
  have hat:(atL es (x:Int)).length≤es.length:=zas _ _
  unfold F169.B11 F169.L4
  refine ⟨fun x2 x3 x7 x9 x10 y11 x12 G=>w0=x2∧H.length=x3∧.slice (some ⟨H1.length,0,none⟩) n.toNat (n.toNat+1)=x7∧(i:Int)=x10∧x11=y11∧H.le G∧G2.length≤G.length∧Own G H.length 26 [.int .i64 n,v]∧Fresh G4.length G x11 2 1 (LI (atL es (x:Int)))∧(∀ b,bk x11=some b→bk x9≠some b)∧∃ (t:Nat) (D:List Int) (L:List Nat),x12=t∧t≤(atL es (x:Int)).length∧i<L.length∧L.getD i 0=x∧FarS (FarP es a w0) n.toNat H1.length G2.length x9 D L G,
   fun _ _ _ _ _ _ x12 _=>(atL es (x:Int)).length-x12.toNat,⟨rfl,rfl,rfl,rfl,rfl,AHeap.le_trans lG4 l5,Nat.le_trans hG4 l5.1,oG4.le l5,f5,fun b hb hb'=>by have:=(f5.bk_lt hb).1;have:=(st.f.bk_lt hb').2;omega,0,D4,L4,rfl,by omega,hlt,by rw [zae hlt,hx],st.o.le l5,st.far,st.f.le l5,st.all,st.cnt,st.ne,st.p⟩,?_⟩
  clear f5 l5 hxf hcn hxg st oG4 lG4 hNL
  rintro x2 x3 x7 x9 x10 y11 x12 G6 ⟨rfl,rfl,rfl,rfl,rfl,lG6,hG6,oG6,f6,hne,t,D6,L6,rfl,ht,hiL,hLi,st⟩
  have hNL:(NI L6).length=L6.length:=by simp
  have hxg:(NI L6).getD i 0=(x:Int):=by rw [zae (by rw [hNL];exact hiL),List.getElem_map];rw [zae hiL] at hLi;rw [hLi];rfl
  have hxm:x∈L6:=by rw [zae hiL] at hLi;rw [← hLi];exact List.getElem_mem hiL
  obtain ⟨_,hxf⟩:=st.all x hxm
  unfold F169.B10
  refine f6.ints.len (zaa (fun hb=>?_) fun hb=>?_)
  ·have htl:t<(atL es (x:Int)).length:=by have:=of_decide_eq_true hb;omega
   obtain ⟨e,he1,he2,he3⟩:=zc4 htl
   have hm:es.getD e (0,0)∈es:=by rw [zae he2];exact List.getElem_mem _
   have hre:=hr _ hm
   unfold F169.B9
   refine zac oG6 rfl (zab oG6 rfl (f6.ints.rd (by omega) (by omega) (st.f.ints.rd (by omega) (by rw [hNL];omega) ?_)))
   simp only [Int.toNat_natCast]
   rw [hxg,he1]
   refine zcE (h.le lG6) (by omega) (by omega) (by rw [Int.toNat_natCast];omega) (by rw [Int.toNat_natCast];omega) (by omega) fun G7 l7=>zag ?_
   rw [Int.toNat_natCast]
   obtain ⟨y,hy⟩:∃ y:Nat,(es.getD e (0,0)).1+(es.getD e (0,0)).2-(x:Int)=y:=⟨((es.getD e (0,0)).1+(es.getD e (0,0)).2-(x:Int)).toNat,by rcases zcR he3 with q|q <;> omega⟩
   have hyN:y<n.toNat:=by rcases zcR he3 with q|q <;> omega
   rw [hy]
   have f7:=f6.le l7
   have o7:=st.o.le l7
   have s7:=st.f.le l7
   have lG7:=AHeap.le_trans lG6 l7
   have oG7:=oG6.le l7
   have hG7:=Nat.le_trans hG6 l7.1
   have oi:=zau (c:=n.toNat+1) o7
   rw [st.far.len] at oi
   have hDl6:=st.far.len
   have next:∀ G8 D8 L8 x9',H.le G8→G2.length≤G8.length→Own G8 H.length 26 [.int .i64 n,v]→Fresh G4.length G8 x11 2 1 (LI (atL es (x:Int)))→(∀ b,bk x11=some b→bk x9'≠some b)→i<L8.length→L8.getD i 0=x→FarS (FarP es a w0) n.toNat H1.length G2.length x9' D8 L8 G8→
    F169.B5 K (fun z2 z3 z7 z9 z10 G=>(w0=z2∧H.length=z3∧.slice (some ⟨H1.length,0,none⟩) n.toNat (n.toNat+1)=z7∧H.le G∧G2.length≤G.length∧Own G H.length 26 [.int .i64 n,v]∧∃ (i:Nat) (D:List Int) (L:List Nat),z10=i∧i≤L.length∧FarS (FarP es a w0) n.toNat H1.length G2.length z9 D L G)∧n.toNat-z10.toNat<n.toNat-((i:Nat):Int).toNat)
     (fun z2 z3 z7 z9 z10 z11 z12 G=>(w0=z2∧H.length=z3∧.slice (some ⟨H1.length,0,none⟩) n.toNat (n.toNat+1)=z7∧(i:Int)=z10∧x11=z11∧H.le G∧G2.length≤G.length∧Own G H.length 26 [.int .i64 n,v]∧Fresh G4.length G x11 2 1 (LI (atL es (x:Int)))∧(∀ b,bk x11=some b→bk z9≠some b)∧∃ (t:Nat) (D:List Int) (L:List Nat),z12=t∧t≤(atL es (x:Int)).length∧i<L.length∧L.getD i 0=x∧FarS (FarP es a w0) n.toNat H1.length G2.length z9 D L G)∧(atL es (x:Int)).length-z12.toNat<(atL es (x:Int)).length-((t:Nat):Int).toNat)
     w0 H.length (.slice (some ⟨H1.length,0,none⟩) n.toNat (n.toNat+1)) x9' i x11 t G8:=by
    intro G8 D8 L8 x9' q1 q2 q3 q4 q5 q6 q7 q8
    unfold F169.B5
    rw [zad (by omega) (by omega)]
    exact ⟨⟨rfl,rfl,rfl,rfl,rfl,q1,q2,q3,q4,q5,t+1,D8,L8,by omega,by omega,q6,q7,q8⟩,by simp;omega⟩
   have same:FarS (FarP es a w0) n.toNat H1.length G2.length x9 D6 L6 G7:=⟨o7,st.far,s7,st.all,st.cnt,st.ne,st.p⟩
   unfold F169.B8
   refine f7.ints.rd (by omega) (by omega) (zaa (fun hc=>oi.rd (by omega) (by omega) (zaa (fun hd=>?_) fun hd=>next G7 D6 L6 x9 lG7 hG7 oG7 f7 hne hiL hLi same)) fun hc=>next G7 D6 L6 x9 lG7 hG7 oG7 f7 hne hiL hLi same)
   have hwe:(e:Int)≠w0:=by
    have:=bne_iff_ne.1 hc
    simp only [Int.toNat_natCast,he1] at this;exact this
   have hey:on (es.getD e (0,0)) (y:Int)=true:=by
    rcases zcR he3 with q|q
    ·unfold on;simp only [Bool.or_eq_true,beq_iff_eq];omega
    ·unfold on;simp only [Bool.or_eq_true,beq_iff_eq];omega
   have hyf:farB D6 y=false:=by
    have:=of_decide_eq_true hd
    rw [Int.toNat_natCast] at this
    cases hf:farB D6 y with
    | false=>rfl
    | true=>have:=(zbH (by omega)).1 hf;omega
   have hx0:=(zbH (zeP hxf)).1 hxf
   have hxr:=(st.far.rng x hxN).2
   have hus:=zbK (farB D6) n.toNat
   unfold F169.B7
   refine s7.ints.rd (by omega) (by rw [hNL];omega) ?_
   simp only [Int.toNat_natCast]
   rw [hxg]
   refine oi.rd (by omega) (by omega) (zan (by omega) (by omega) (zaO o7 (by simp;omega) rfl fun G8 b8 p8=>?_))
   rw [Int.toNat_natCast,Int.toNat_natCast,zad (by omega) (by omega),← List.map_set] at p8
   have far8:=st.far.set hxf hyN hyf
   have fb8:farB (D6.set y (D6.getD x 0+1))=insB (farB D6) y:=zgd (by omega) (by omega)
   have f8:=f7.but b8 (by have:=o7.lt;have:=p8.lt;omega)
   have s8:=s7.but b8 (by omega)
   have hcn:=st.cnt
   have hui:=za5 (S:=farB D6) hyN hyf
   have hg8:=b8.len
   unfold F169.B6
   refine s8.sl.pushN zbl (by decide) (by omega) (n:=1) (ys:=[.int .i64 (y:Int)]) rfl rfl (by simp;omega) (by simp) fun v3 G9 k9 ot9 nb9 f9=>?_
   have e9:LI (NI L6)++[.int .i64 (y:Int)]=LI (NI (L6++[y])):=by simp
   rw [e9] at f9
   have hb7:H1.length<G2.length:=by omega
   refine next G9 _ (L6++[y]) v3 (k9.le (b8.le lG7 hl1) (by omega)) (by have:=k9.len;omega) (k9.own (b8.own oG7 (by omega)) (by omega)) (zaM f8 fun b o hb ho=>ot9 b o (fun e=>hne b hb e) ho) (fun b hb hb'=>by have:=(f8.bk_lt hb).2;have:=nb9 b hb';omega) (by simp;omega) ?_ ⟨k9.own p8 hb7,far8,f9,fun z hz=>?_,?_,fun e=>by have:=nb9 _ e;omega,st.p.set hxf (by omega) hyf he2 hwe hey (by omega)⟩
   ·rw [List.getD,List.getElem?_append_left hiL];exact hLi
   ·rw [fb8]
    rcases List.mem_append.1 hz with hz|hz
    ·exact ⟨(st.all z hz).1,zcC (st.all z hz).2⟩
    ·rw [List.mem_singleton] at hz;subst hz;exact ⟨hyN,zbM _ _⟩
   ·rw [fb8];simp;omega
  ·unfold F169.B3
   have hcn:=st.cnt
   rw [zad (by omega) (by omega)]
   exact ⟨⟨rfl,rfl,rfl,lG6,hG6,oG6,i+1,D6,L6,by omega,by omega,st⟩,by simp;omega⟩
 ·unfold F169.B1
  refine k _ D4 G4 lG4 (.inr ⟨H1.length,n.toNat,l1.1,rfl,st.o,?_⟩) st.far.len (by rw [Int.toNat_natCast];exact st.p) fun w hw=>?_
  ·rw [List.length_map,st.far.len];omega
  ·have:=st.far.rng w hw
   omega
end Go.Proofs
namespace Go.Proofs
open Go.Abs

variable {H G G' Hb H0:AHeap} {v u f w:Value} {l m D F:List Int} {es fs:List (Int × Int)} {K:Value→AHeap→Prop} {bs b7:Nat} {n q:Int}

theorem zuA {x q:Int} (h0:0≤x) (hq:0<q):0≤Int.tmod x q∧Int.tmod x q<q:=by
 rw [Int.tmod_eq_emod_of_nonneg h0]
 exact ⟨Int.emod_nonneg _ (by omega),Int.emod_lt_of_pos _ hq⟩
structure FloS (Hb H:AHeap) (bs b7:Nat) (n q:Int) (v:Value) (es:List (Int × Int)) (F:List Int) (G:AHeap):Prop where
 kb:Kb bs H G
 s:Src Hb bs G
 og:Own G H.length 26 [.int .i64 n,v]
 o:Own G b7 2 (LI F)
 len:F.length=es.length
 rng:∀ x∈F,0≤x∧x<q
theorem FloS.step (h:FloS Hb H bs b7 n q v es F G) (hb:bs<H.length) (h7:bs<b7) (k:Kb bs G G') (s:Src Hb bs G'):FloS Hb H bs b7 n q v es F G':=
 ⟨h.kb.trans k,s,k.own h.og (by omega),k.own h.o (by omega),h.len,h.rng⟩
theorem FloS.le (h:FloS Hb H bs b7 n q v es F G) (hb:bs<H.length) (h7:bs<b7) (l:G.le G'):FloS Hb H bs b7 n q v es F G':=h.step hb h7 (.of_le l) (h.s.le l)
theorem FloS.put (h:FloS Hb H bs b7 n q v es F G) (hb:bs<H.length) (h7:H.length<b7) {j:Nat} {x:Int} (b:But b7 G G') (o:Own G' b7 2 ((LI F).set j (.int .i64 x))) (h0:0≤x) (h1:x<q):FloS Hb H bs b7 n q v es (F.set j x) G':=by
 refine ⟨h.kb.but b (by omega),h.s.but b (by omega),b.own h.og (by omega),by rw [← List.map_set] at o;exact o,by simp [h.len],fun y hy=>?_⟩
 rcases List.mem_or_eq_of_mem_set hy with hy|rfl
 ·exact h.rng y hy
 ·exact ⟨h0,h1⟩
theorem FloS.ints (h:FloS Hb H bs b7 n q v es F G):Ints G (.slice (some ⟨b7,0,none⟩) es.length (es.length+1)) F:=by
 have:=zau (c:=es.length+1) h.o
 rw [h.len] at this;exact this
theorem FloS.get (h:FloS Hb H bs b7 n q v es F G) {j:Nat} (hj:j<es.length):0≤F.getD j 0∧F.getD j 0<q:=by
 rw [zae (by have:=h.len;omega)];exact h.rng _ (List.getElem_mem _)
theorem zjH (hs:Src Hb bs H) (h:Sl (bs+1) H v 66 2 (LE es)) (hg:Gd2 n es) (hq:2≤q∧q≤1000)
 (k:∀ v' F G,Kb bs H G→Src Hb bs G→Fresh H.length G v' 2 1 (LI F)→F.length=es.length→(∀ x∈F,0≤x∧x<q)→K v' G) :
 AC Tryz.prog T0 119 [.pointer (some ⟨bs,0,none⟩),.agg ⟨[.int .i64 n,v]⟩,.int .i64 q] H K:=by
 have hbs:=hs.lt
 have hpos:=hg.pos;have hlen:=hg.len;have hlo:=hg.lo;have hhi:=hg.hi
 have hend:∀ e,e<es.length→0≤(es.getD e (0,0)).1∧(es.getD e (0,0)).1<n∧0≤(es.getD e (0,0)).2∧(es.getD e (0,0)).2<n:=fun e he=>by
  rw [zae he];exact hg.rng _ (List.getElem_mem he)
 apply F119.ac
 unfold F119.B26
 refine zaf (zak (zbN h)) fun H1 l1 n1 o1=>?_
 unfold F119.B25
 refine zab o1 rfl ((zbg (h.le l1)).len (zaF (by omega) (by omega) (by decide) fun H2 l2 n2 o2=>?_))
 rw [zb3,Int.toNat_natCast] at o2
 rw [Int.toNat_natCast]
 have l02:=AHeap.le_trans l1 l2
 have h7:H.length<H1.length:=by omega
 have h7':bs<H1.length:=by omega
 have st0:FloS Hb H bs H1.length n q v es (List.replicate es.length 0) H2:=⟨.of_le l02,hs.le l02,o1.le l2,o2,List.length_replicate,fun x hx=>by rw [List.mem_replicate] at hx;omega⟩
 have hsl:∀ {F G},FloS Hb H bs H1.length n q v es F G→Edges G v es:=fun st=>zbg (zcW h st.kb)
 unfold F119.B24
 refine zav st0.s fun r G1 k1 s1 r0 r1 _=>zag ?_
 have hr:=r1 (by decide)
 unfold F119.L2
 refine ⟨fun x0 x2 x4 x7 x8 G=>.pointer (some ⟨bs,0,none⟩)=x0∧q=x2∧H.length=x4∧.slice (some ⟨H1.length,0,none⟩) es.length (es.length+1)=x7∧∃ (i:Nat) (F:List Int),x8=i∧i≤6∧FloS Hb H bs H1.length n q v es F G,
  fun _ _ _ _ x8 _=>x8.toNat,⟨rfl,rfl,rfl,rfl,r.toNat,_,by omega,by omega,st0.step hbs h7' k1 s1⟩,?_⟩
 rintro x0 x2 x4 x7 x8 G ⟨rfl,rfl,rfl,rfl,i,F,rfl,hi,st⟩
 unfold F119.B23
 refine zaa (fun hb=>?_) fun hb=>?_
 rotate_left
 ·unfold F119.B1
  refine k _ F G st.kb st.s (.inr ⟨H1.length,es.length,by omega,rfl,st.o,?_⟩) st.len st.rng
  rw [List.length_map,st.len];omega
 have hi0:0<i:=by have:=of_decide_eq_true hb;omega
 clear st0 k1 s1 r1 hr hb
 have nx:∀ G F,FloS Hb H bs H1.length n q v es F G→F119.B3 K (fun y0 y2 y4 y7 y8 G'=>(.pointer (some ⟨bs,0,none⟩)=y0∧q=y2∧H.length=y4∧.slice (some ⟨H1.length,0,none⟩) es.length (es.length+1)=y7∧∃ (i:Nat) (F:List Int),y8=i∧i≤6∧FloS Hb H bs H1.length n q v es F G')∧y8.toNat<((i:Nat):Int).toNat)
  (.pointer (some ⟨bs,0,none⟩)) q H.length (.slice (some ⟨H1.length,0,none⟩) es.length (es.length+1)) (i:Int) G:=by
  intro G F st
  unfold F119.B3
  rw [zad (by omega) (by omega)]
  exact ⟨⟨rfl,rfl,rfl,rfl,i-1,F,by omega,by omega,st⟩,by omega⟩
 unfold F119.B22
 refine zab st.og rfl ((hsl st).len (zav st.s fun e G2 k2 s2 e0 e1 _=>zag ?_))
 have he:=e1 (by omega)
 have st2:=st.step hbs h7' k2 s2
 obtain ⟨e,rfl⟩:∃ e':Nat,e=e':=⟨e.toNat,by omega⟩
 obtain ⟨b,o,hk,c1,c2⟩:=(hsl st2).idx e0 he
 rw [Int.toNat_natCast] at c1 c2
 have hee:=hend e (by omega)
 unfold F119.B21
 refine zab st2.og rfl (hk _ (zap c1 (zab st2.og rfl (hk _ (zap c2 ?_)))))
 obtain ⟨a,ha⟩:∃ a:Nat,(es.getD e (0,0)).1=a:=⟨(es.getD e (0,0)).1.toNat,by omega⟩
 obtain ⟨c,hc⟩:∃ c:Nat,(es.getD e (0,0)).2=c:=⟨(es.getD e (0,0)).2.toNat,by omega⟩
 rw [ha,hc] at hee ⊢
 unfold F119.B20
 refine zac st2.og rfl (zab st2.og rfl (zkd (hsl st2) hg.rng ⟨by omega,by omega⟩ (by omega) ⟨by omega,by omega⟩ fun x12 D G3 l3 f3 hD hP hDr=>?_))
 rw [Int.toNat_natCast] at hP
 have hG2:=st2.o.lt
 rw [zad (by omega) (by omega)]
 refine zav (st2.s.le l3) fun r G4 k4 s4 r0 r1 _=>zag ?_
 have hr1:=r1 (by omega)
 rw [zad (by omega) (by omega)]
 obtain ⟨d,hd⟩:∃ d,d=1+r:=⟨_,rfl⟩
 rw [← hd]
 have st4:=(st2.le hbs h7' l3).step hbs h7' k4 s4
 have f4:=zaC f3 k4 (by omega)
 unfold F119.B19
 refine f4.ints.rd (by omega) (by omega) (zaa (fun _=>nx G4 F st4) fun hb=>?_)
 rw [Int.toNat_natCast] at hb
 have hc0:=of_decide_eq_false hb
 unfold F119.B18
 have hge:=st4.get (j:=e) (by omega)
 refine st4.ints.rd (by omega) (by have:=st4.len;omega) (zmC (by omega) (zan (by omega) (by omega) (zaO st4.o (by have:=st4.len;simp;omega) rfl fun G5 b5 p5=>?_)))
 rw [Int.toNat_natCast] at p5
 rw [zad (by omega) (by omega)] at p5
 have hm:=zuA (x:=F.getD e 0+d) (q:=q) (by omega) (by omega)
 have st5:=st4.put hbs h7 b5 p5 hm.1 hm.2
 have f5:=f4.but b5 (by omega)
 unfold F119.B17 F119.L4
 refine ⟨fun x0 x2 x4 x7 x8 x9 x10 y12 x13 x14 G=>.pointer (some ⟨bs,0,none⟩)=x0∧q=x2∧H.length=x4∧.slice (some ⟨H1.length,0,none⟩) es.length (es.length+1)=x7∧(i:Int)=x8∧(e:Int)=x9∧(a:Int)=x10∧x12=y12∧d=x13∧Fresh G2.length G x12 2 1 (LI D)∧∃ (y:Nat) (F:List Int),x14=y∧farB D y=true∧FloS Hb H bs H1.length n q v es F G,
  fun _ _ _ _ _ _ _ _ _ x14 _=>(D.getD x14.toNat 0).toNat,⟨rfl,rfl,rfl,rfl,rfl,rfl,rfl,rfl,rfl,f5,c,_,rfl,(zbH (by omega)).2 (by omega),st5⟩,?_⟩
 clear st st2 st4 st5 f3 f4 f5 p5 b5 hm hge
 rintro x0 x2 x4 x7 x8 x9 x10 y12 x13 x14 G ⟨rfl,rfl,rfl,rfl,rfl,rfl,rfl,rfl,rfl,fD,y,F,rfl,hy,st⟩
 have hyl:=zeP hy
 have hy0:=(zbH hyl).1 hy
 have hyr:=hDr y (by omega)
 unfold F119.B16
 refine zaa (fun hb=>?_) fun hb=>nx G F st
 have hya:y≠a:=fun e'=>by subst e';simp at hb
 unfold F119.B15
 refine zac st.og rfl (zab st.og rfl (zcO (hsl st) (by omega) fun x15 G6 l6 f6=>?_))
 have hat:(atL es (y:Int)).length≤es.length:=zas _ _
 have hGl:=st.o.lt
 unfold F119.B14 F119.L5
 obtain ⟨Cnd,hCnd⟩:∃ Cnd:Nat→Prop,Cnd=fun t=>(atL es (y:Int)).getD t 0≠e∧D.getD ((es.getD ((atL es (y:Int)).getD t 0).toNat (0,0)).1+(es.getD ((atL es (y:Int)).getD t 0).toNat (0,0)).2-(y:Int)).toNat 0=D.getD y 0-1:=⟨_,rfl⟩
 refine ⟨fun x0 x2 x4 x7 x8 x9 x10 y12 x13 x14 y15 x16 G=>.pointer (some ⟨bs,0,none⟩)=x0∧q=x2∧H.length=x4∧.slice (some ⟨H1.length,0,none⟩) es.length (es.length+1)=x7∧(i:Int)=x8∧(e:Int)=x9∧(a:Int)=x10∧x12=y12∧d=x13∧(y:Int)=x14∧x15=y15∧Fresh G2.length G x12 2 1 (LI D)∧Fresh H2.length G x15 2 1 (LI (atL es (y:Int)))∧FloS Hb H bs H1.length n q v es F G∧∃ t:Nat,x16=t∧t≤(atL es (y:Int)).length∧∀ t'<t,¬ Cnd t',
  fun _ _ _ _ _ _ _ _ _ _ _ x16 _=>(atL es (y:Int)).length-x16.toNat,⟨rfl,rfl,rfl,rfl,rfl,rfl,rfl,rfl,rfl,rfl,rfl,fD.le l6,f6.less ?_,st.le hbs h7' l6,0,rfl,by omega,fun t' ht=>absurd ht (by omega)⟩,?_⟩
 ·have:=st.kb.len;omega
 clear st fD f6
 rintro x0 x2 x4 x7 x8 x9 x10 y12 x13 x14 y15 x16 G ⟨rfl,rfl,rfl,rfl,rfl,rfl,rfl,rfl,rfl,rfl,rfl,fD,f6,st,t,rfl,ht,hno⟩
 unfold F119.B13
 refine f6.ints.len (zaa (fun hb=>?_) fun hb=>?_)
 rotate_left
 ·exfalso
  have hte:t=(atL es (y:Int)).length:=by have:=of_decide_eq_false hb;omega
  rcases hP.2 y hy with h1|⟨e2,x,g1,g2,g3,g4,g5,g6⟩
  ·exact hya h1
  ·obtain ⟨t',ht',hte'⟩:=List.getElem_of_mem (zaN.2 ⟨e2,rfl,g1,g3⟩)
   refine hno t' (by omega) ?_
   rw [hCnd]
   simp only
   rw [zae ht',hte',Int.toNat_natCast,g4,Int.toNat_natCast]
   exact ⟨g2,by omega⟩
 have htl:t<(atL es (y:Int)).length:=by have:=of_decide_eq_true hb;omega
 obtain ⟨e2,he1,he2,he3⟩:=zc4 htl
 have hre:=hend e2 he2
 unfold F119.B12
 refine zac st.og rfl (zab st.og rfl (f6.ints.rd (by omega) (by omega) ?_))
 rw [Int.toNat_natCast,he1]
 refine zcE (hsl st) (by omega) (by omega) (by rw [Int.toNat_natCast];omega) (by rw [Int.toNat_natCast];omega) (by omega) fun G7 l7=>zag ?_
 rw [Int.toNat_natCast]
 obtain ⟨z,hz⟩:∃ z:Nat,(es.getD e2 (0,0)).1+(es.getD e2 (0,0)).2-(y:Int)=z:=⟨((es.getD e2 (0,0)).1+(es.getD e2 (0,0)).2-(y:Int)).toNat,by rcases zcR he3 with p|p <;> omega⟩
 have hzN:z<n.toNat:=by rcases zcR he3 with p|p <;> omega
 rw [hz]
 have st7:=st.le hbs h7' l7
 have f7:=f6.le l7
 have d7:=fD.le l7
 have hCt:Cnd t↔(e2:Int)≠e∧D.getD z 0=D.getD y 0-1:=by
  rw [hCnd]
  simp only
  rw [he1,Int.toNat_natCast,hz,Int.toNat_natCast]
 unfold F119.B11
 have stay:∀ N2 N4,¬ Cnd t→F119.B6 K N2 N4 (fun y0 y2 y4 y7 y8 y9 y10 y12 y13 y14 y15 y16 G'=>(.pointer (some ⟨bs,0,none⟩)=y0∧q=y2∧H.length=y4∧.slice (some ⟨H1.length,0,none⟩) es.length (es.length+1)=y7∧(i:Int)=y8∧(e:Int)=y9∧(a:Int)=y10∧x12=y12∧d=y13∧(y:Int)=y14∧x15=y15∧Fresh G2.length G' x12 2 1 (LI D)∧Fresh H2.length G' x15 2 1 (LI (atL es (y:Int)))∧FloS Hb H bs H1.length n q v es F G'∧∃ t:Nat,y16=t∧t≤(atL es (y:Int)).length∧∀ t'<t,¬ Cnd t')∧(atL es (y:Int)).length-y16.toNat<(atL es (y:Int)).length-((t:Nat):Int).toNat)
  (.pointer (some ⟨bs,0,none⟩)) q H.length (.slice (some ⟨H1.length,0,none⟩) es.length (es.length+1)) (i:Int) (e:Int) (a:Int) x12 d (y:Int) x15 (t:Int) G7:=by
  intro N2 N4 hn
  unfold F119.B6
  rw [zad (by omega) (by omega)]
  refine ⟨⟨rfl,rfl,rfl,rfl,rfl,rfl,rfl,rfl,rfl,rfl,rfl,d7,f7,st7,t+1,by omega,by omega,fun t' ht'=>?_⟩,by simp;omega⟩
  by_cases e':t'=t
  ·subst e';exact hn
  ·exact hno t' (by omega)
 refine f7.ints.rd (by omega) (by omega) (zaa (fun hc'=>?_) fun hc'=>stay _ _ fun hC=>?_)
 rotate_left
 ·rw [Int.toNat_natCast,he1] at hc'
  exact (hCt.1 hC).1 (bne_eq_false_iff_eq.1 hc')
 rw [Int.toNat_natCast,he1] at hc'
 have hne:=bne_iff_ne.1 hc'
 refine d7.ints.rd (by omega) (by omega) (d7.ints.rd (by omega) (by omega) ?_)
 rw [Int.toNat_natCast,Int.toNat_natCast,zad (by omega) (by omega)]
 refine zaa (fun hd'=>?_) fun hd'=>stay _ _ fun hC=>?_
 rotate_left
 ·exact beq_eq_false_iff_ne.1 hd' (hCt.1 hC).2
 have hdz:D.getD z 0=D.getD y 0-1:=beq_iff_eq.1 hd'
 have hy1:1≤D.getD y 0:=by
  rcases hP.2 y hy with h1|⟨e2',x,g1,g2,g3,g4,g5,g6⟩
  ·exact absurd h1 hya
  ·have:=(zbH (zeP g5)).1 g5;omega
 have hzf:farB D z=true:=(zbH (by omega)).2 (by omega)
 have hF:=st7.get he2
 have hFl:=st7.len
 -- the end
 have go:∀ (x:Int) G8,0≤x→x<q→But H1.length G7 G8→Own G8 H1.length 2 ((LI F).set e2 (.int .i64 x))→
  F119.B7 K (fun y0 y2 y4 y7 y8 G'=>(.pointer (some ⟨bs,0,none⟩)=y0∧q=y2∧H.length=y4∧.slice (some ⟨H1.length,0,none⟩) es.length (es.length+1)=y7∧∃ (i:Nat) (F:List Int),y8=i∧i≤6∧FloS Hb H bs H1.length n q v es F G')∧y8.toNat<((i:Nat):Int).toNat)
   (fun y0 y2 y4 y7 y8 y9 y10 y12 y13 y14 G'=>(.pointer (some ⟨bs,0,none⟩)=y0∧q=y2∧H.length=y4∧.slice (some ⟨H1.length,0,none⟩) es.length (es.length+1)=y7∧(i:Int)=y8∧(e:Int)=y9∧(a:Int)=y10∧x12=y12∧d=y13∧Fresh G2.length G' x12 2 1 (LI D)∧∃ (y:Nat) (F:List Int),y14=y∧farB D y=true∧FloS Hb H bs H1.length n q v es F G')∧(D.getD y14.toNat 0).toNat<(D.getD ((y:Nat):Int).toNat 0).toNat)
   (fun y0 y2 y4 y7 y8 y9 y10 y12 y13 y14 y15 y16 G'=>(.pointer (some ⟨bs,0,none⟩)=y0∧q=y2∧H.length=y4∧.slice (some ⟨H1.length,0,none⟩) es.length (es.length+1)=y7∧(i:Int)=y8∧(e:Int)=y9∧(a:Int)=y10∧x12=y12∧d=y13∧(y:Int)=y14∧x15=y15∧Fresh G2.length G' x12 2 1 (LI D)∧Fresh H2.length G' x15 2 1 (LI (atL es (y:Int)))∧FloS Hb H bs H1.length n q v es F G'∧∃ t:Nat,y16=t∧t≤(atL es (y:Int)).length∧∀ t'<t,¬ Cnd t')∧(atL es (y:Int)).length-y16.toNat<(atL es (y:Int)).length-((t:Nat):Int).toNat)
   (.pointer (some ⟨bs,0,none⟩)) q H.length (.slice (some ⟨H1.length,0,none⟩) es.length (es.length+1)) (i:Int) (e:Int) (a:Int) x12 d (z:Int) G8:=by
  intro x G8 x0 x1 b8 o8
  unfold F119.B7
  refine ⟨⟨rfl,rfl,rfl,rfl,rfl,rfl,rfl,rfl,rfl,d7.but b8 (by omega),z,_,rfl,hzf,st7.put hbs h7 b8 o8 x0 x1⟩,?_⟩
  rw [Int.toNat_natCast,Int.toNat_natCast,hdz];omega
 unfold F119.B10
 refine zaa (fun _=>?_) fun _=>?_
 ·unfold F119.B8
  refine f7.ints.rd (by omega) (by omega) (f7.ints.rd (by omega) (by omega) ?_)
  rw [Int.toNat_natCast,he1]
  refine st7.ints.rd (by omega) (by omega) (zmC (by omega) (zan (by omega) (by omega) (zaO st7.o (by simp;omega) rfl fun G8 b8 o8=>?_)))
  rw [Int.toNat_natCast,zad (by omega) (by omega)] at o8
  have hm:=zuA (x:=F.getD e2 0+d) (q:=q) (by omega) (by omega)
  exact go _ G8 hm.1 hm.2 b8 o8
 ·unfold F119.B9
  refine f7.ints.rd (by omega) (by omega) (f7.ints.rd (by omega) (by omega) ?_)
  rw [Int.toNat_natCast,he1]
  refine st7.ints.rd (by omega) (by omega) (zmC (by omega) (zan (by omega) (by omega) (zaO st7.o (by simp;omega) rfl fun G8 b8 o8=>?_)))
  rw [Int.toNat_natCast,show IntKind.i64.wrap (F.getD e2 0+q)=F.getD e2 0+q from zad (by omega) (by omega),zad (by omega) (by omega)] at o8
  have hm:=zuA (x:=F.getD e2 0+q-d) (q:=q) (by omega) (by omega)
  exact go _ G8 hm.1 hm.2 b8 o8
end Go.Proofs
namespace Go.Proofs
open Go.Abs

variable {H G G' Hb H0:AHeap} {v u f w:Value} {l m D:List Int} {es fs:List (Int × Int)} {K:Value→AHeap→Prop} {bs:Nat} {n:Int}

def DrwL (H:AHeap) (K:Value→AHeap→Prop):Prop:=∀ v n es w l G,H.le G→Sl H.length G v 66 2 (LE es)→Fresh H.length G w 2 1 (LI l)→es.length≤2000→l.length≤3000→-2≤n→n≤202→K (.tuple ⟨[.agg ⟨[.int .i64 n,v]⟩,w]⟩) G
theorem zci {x2:Nat} (k:DrwL H K) (l1:H.le G) (hx:H.length≤x2) (o:Own G x2 26 [.int .i64 0,.slice none 0 0]) (hv:Sl (x2+1) G v 66 2 (LE es)) (hw:Fresh (x2+1) G w 2 1 (LI l)) (h1:es.length≤2000) (h2:l.length≤3000) (h3:-2≤n) (h4:n≤202) :
 stK G x2 0 [.int .i64 n,v] (fun H3=>ldI .i64 H3 x2 0 (fun v4=>ld1 H3 x2 1 (fun v5=>K (.tuple ⟨[.agg ⟨[.int .i64 v4,v5]⟩,w]⟩) H3))):=
 za1 (K:=fun v G=>K (.tuple ⟨[v,w]⟩) G) o l1 hx hv (Nat.lt_succ_self _) fun G' b' lG eG=>k v n es w l G' lG (eG.less (by omega)) ((hw.but b' (by omega)).less (by omega)) h1 h2 h3 h4
end Go.Proofs
namespace Go.Proofs
open Go.Abs

variable {es:List (Int × Int)} {p:Nat→Bool} {l c O:List Int} {cs:List (List Int)} {n:Int} {e:Nat}

end Go.Proofs
namespace Go.Proofs
open Go.Abs

variable {H G:AHeap} {v u f:Value} {l m c D:List Int} {es fs:List (Int × Int)} {K:Value→AHeap→Prop} {A A':Nat→Prop} {B:Nat} {ls ms:List (List Int)}

end Go.Proofs
namespace Go.Proofs
open Go.Abs

variable {H G:AHeap} {v u f:Value} {l m c D:List Int} {es fs:List (Int × Int)} {K:Value→AHeap→Prop} {A A':Nat→Prop} {B:Nat} {ls ms:List (List Int)}

end Go.Proofs
namespace Go.Proofs
open Go.Abs

variable {H G:AHeap} {v u f:Value} {l m c D:List Int} {es fs:List (Int × Int)} {K:Value→AHeap→Prop} {A A':Nat→Prop} {B:Nat} {ls ms:List (List Int)}

end Go.Proofs
namespace Go.Proofs
open Go.Abs

variable {H G:AHeap} {v u f:Value} {l m c D:List Int} {es fs:List (Int × Int)} {K:Value→AHeap→Prop}

end Go.Proofs
namespace Go.Proofs
open Go.Abs

variable {es:List (Int × Int)} {p:Nat→Bool} {l c O:List Int} {L:List (List Int)} {n:Int} {e:Nat}

-- covers
end Go.Proofs
namespace Go.Proofs
open Go.Abs

variable {H G G' Hb H0:AHeap} {v u f w:Value} {l m c D:List Int} {es fs:List (Int × Int)} {K:Value→AHeap→Prop} {bs:Nat} {n:Int}

end Go.Proofs
namespace Go.Proofs
open Go.Abs

variable {H G G' Hb H0:AHeap} {v u f w:Value} {l m D F:List Int} {es fs:List (Int × Int)} {K:Value→AHeap→Prop} {bs b7:Nat} {n q:Int}

theorem zcj (hs:Src Hb bs H) (h:Sl (bs+1) H v 66 2 (LE es)) (hg:Gd2 n es)
 (k:∀ v' l G,Kb bs H G→Src Hb bs G→Fresh H.length G v' 2 1 (LI l)→IsS l es.length→K v' G) :
 AC Tryz.prog T0 59 [.pointer (some ⟨bs,0,none⟩),.agg ⟨[.int .i64 n,v]⟩] H K:=by
 have hbs:=hs.lt
 have hlen:=hg.len
 apply F59.ac
 unfold F59.B9
 refine zaf (zak (zbN h)) fun H1 l1 n1 o1=>?_
 unfold F59.B8
 refine zac o1 rfl (zab o1 rfl (zjH (hs.le l1) (h.le l1) hg ⟨by decide,by decide⟩ fun x5 F G k1 s1 fF hF hFr=>zaf rfl fun G2 l2 n2 o2=>?_))
 have kb2:Kb bs H G2:=((Kb.of_le l1).trans k1).trans (.of_le l2)
 have hk1:=k1.len
 obtain ⟨P,hP⟩:∃ P:Nat→Bool,P=fun j=>F.getD j 0==1:=⟨_,rfl⟩
 unfold F59.B7 F59.L2
 refine ⟨fun y5 x6 x7 G'=>x5=y5∧G.length≤G'.length∧Kb bs H G'∧Src Hb bs G'∧Fresh H1.length G' x5 2 1 (LI F)∧∃ i:Nat,x7=i∧i≤es.length∧Fresh G.length G' x6 2 1 (LI (filtB P i)),fun _ _ x7 _=>es.length-x7.toNat,
  ⟨rfl,l2.1,kb2,s1.le l2,fF.le l2,0,rfl,by omega,.inr ⟨_,0,Nat.le_refl _,rfl,o2,rfl⟩⟩,?_⟩
 rintro y5 x6 x7 G' ⟨rfl,hgl,kb,s,fF',i,rfl,hi,f6⟩
 have hfl:=zas P i
 unfold F59.B6
 refine fF'.ints.len (zaa (fun hb=>?_) fun hb=>?_)
 ·have hlt:i<es.length:=by have:=of_decide_eq_true hb;omega
  unfold F59.B5
  refine fF'.ints.rd (by omega) (by omega) ?_
  rw [Int.toNat_natCast,show (F.getD i 0==1)=P i by rw [hP]]
  refine zaa (fun hc=>?_) fun hc=>?_
  ·unfold F59.B4
   refine f6.sl.pushN zbl (by decide) hgl (n:=1) (ys:=[.int .i64 (i:Int)]) rfl rfl (by simp;omega) (by simp) fun v3 G4 k4 _ _ f4=>?_
   unfold F59.B3
   rw [zad (by omega) (by omega)]
   refine ⟨⟨rfl,by have:=k4.len;omega,kb.keep (k4.less (by omega)),s.keep k4 (by omega),fF'.keep k4 fun b c e=>?_,i+1,by omega,by omega,?_⟩,by simp;omega⟩
   ·have:=(fF.bk_lt (b:=b) (by rw [e];rfl)).2;omega
   ·rw [zaH,if_pos hc];simpa using f4
  ·unfold F59.B3
   rw [zad (by omega) (by omega)]
   exact ⟨⟨rfl,hgl,kb,s,fF',i+1,by omega,by omega,by rw [zaH,hc];simpa using f6⟩,by simp;omega⟩
 ·have hie:i=es.length:=by have:=of_decide_eq_false hb;omega
  subst hie
  unfold F59.B1
  exact k _ _ G' kb s (f6.less (by omega)) (zc2 (zaL _ _) fun x hx=>by obtain ⟨j,rfl,h1,_⟩:=zar.1 hx;omega)
end Go.Proofs
namespace Go.Proofs
open Go.Abs

variable {H G G' Hb H0:AHeap} {v u f w:Value} {l m D F:List Int} {es fs:List (Int × Int)} {K:Value→AHeap→Prop} {bs b7:Nat} {n q:Int}

theorem zhg (hB:Byts H u l) (hl:l.length≤4096) (k:DrwL H K):AC Tryz.prog T0 95 [u] H K:=by
 apply F95.ac
 unfold F95.B14
 refine zaf rfl fun H1 l1 n1 o1=>?_
 unfold F95.B13
 refine zaV (hB.le l1) hl fun G1 g1 s1=>?_
 have hs1:=s1.lt
 have hlt:=o1.lt
 have ob1:=o1.le g1
 unfold F95.B12
 refine zcH s1 fun v1 n1' es1 G3 k3 s3 f3 g3=>zax (zag (zaf rfl fun G4 l4 n4 o4=>zaf rfl fun G5 l5 n5 o5=>zaG (new:=[.int .i64 n1',v1]) o5 (by simp) (zaT (zaw f3)) rfl fun G6 b6 o6=>?_))
 have h0:=g3.lo;have h1:=g3.hi;have hel:=g3.len
 have l36:G3.le G6:=b6.le (AHeap.le_trans l4 l5) l4.1
 have f3':Sl (H1.length+1) G3 v1 66 2 (LE es1):=f3.sl.less (by omega)
 have hG3:=k3.len
 -- the end
 have fin:∀ G y ly,Kb H1.length G3 G→Src H1 H1.length G→Own G G4.length 26 [.int .i64 n1',v1]→Fresh (H1.length+1) G y 2 1 (LI ly)→ly.length≤3000→F95.B1 K H.length (.pointer (some ⟨H1.length,0,none⟩)) G4.length y G:=by
  intro G y ly kG sG oG fy hly
  unfold F95.B1
  refine zac oG rfl (zab oG rfl (zbj sG (zcW f3' kG) g3 fun v2 n2 es2 G9 k9 s9 h9 _ c9 a0 a1=>zax (zag ?_)))
  have fw9:=zaC fy k9 (by omega)
  refine za1 (K:=fun v G=>K (.tuple ⟨[v,y]⟩) G) (((k3.trans kG).trans k9).own ob1 (by omega)) (AHeap.le_trans l1 s9.1) (Nat.le_refl _) h9 (by omega) fun G' b' lG eG=>?_
  exact k v2 n2 es2 y ly G' lG (eG.less (by omega)) ((fw9.but b' (by omega)).less (by omega)) c9 hly a0 a1
 unfold F95.B11 F95.L7
 refine ⟨fun x2 x4 x5 x6 x7 G=>H.length=x2∧.pointer (some ⟨H1.length,0,none⟩)=x4∧G4.length=x5∧Kb H1.length G3 G∧Src H1 H1.length G∧Own G G4.length 26 [.int .i64 n1',v1]∧G3.length≤G.length∧∃ (i:Nat) (R:List Int),x7=i∧(i:Int)≤n1'∧R.length=i∧Fresh G3.length G x6 2 1 (LI R)∧bk x6≠some G4.length,fun _ _ _ _ x7 _=>(n1'-x7).toNat,
  ⟨rfl,rfl,rfl,.of_le l36,s3.le l36,o6,l36.1,0,[],rfl,by omega,rfl,.inr ⟨_,0,Nat.le_refl _,rfl,b6.own (o4.le l5) (by omega),rfl⟩,fun e=>absurd (Option.some.inj e:G3.length=G4.length) (by omega)⟩,?_⟩
 rintro x2 x4 x5 x6 x7 G ⟨rfl,rfl,rfl,kb,s,oc,hlen,i,R,rfl,hi,hR,f6,hbk⟩
 unfold F95.B10
 refine zac oc rfl (zaa (fun hb=>?_) fun hb=>?_)
 ·have hlt:=of_decide_eq_true hb
  unfold F95.B9
  refine zav s fun r G7 k7 s7 r0 r1 _=>zag ?_
  have f7:=zaC f6 k7 (by omega)
  have oc7:=k7.own oc (by omega)
  have hk7:=k7.len
  refine f7.sl.pushN zbl (by decide) (by omega) (n:=1) (ys:=[.int .i64 r]) rfl rfl (by simp;omega) (by simp) fun v9 G9 k9 ot nb f9=>?_
  unfold F95.B8
  rw [zad (by omega) (by omega)]
  have hk9:=k9.len
  have hc9:=oc7.lt
  exact ⟨⟨rfl,rfl,rfl,(kb.trans k7).keep k9,s7.keep k9 (by omega),ot _ _ hbk oc7,by omega,i+1,R++[r],by omega,by omega,by simp [hR],by simpa using f9,fun e=>by have:=nb _ e;omega⟩,by show (n1'-((i:Int)+1)).toNat<(n1'-(i:Int)).toNat;omega⟩
 ·have hie:(i:Int)=n1':=by have:=of_decide_eq_false hb;omega
  unfold F95.B6
  refine zav s fun r G7 k7 s7 r0 r1 _=>zag ?_
  have f7:=zaC f6 k7 (by omega)
  have oc7:=k7.own oc (by omega)
  have hk7:=k7.len
  have kb7:=kb.trans k7
  have dflt:F95.B1 K H.length (.pointer (some ⟨H1.length,0,none⟩)) G4.length x6 G7:=fin G7 x6 R kb7 s7 oc7 (f7.less (by omega)) (by omega)
  unfold F95.B5
  refine zaa (fun _=>?_) fun _=>?_
  ·unfold F95.B2
   refine f7.sl.pushN zbl (by decide) (by omega) (n:=1) (ys:=[.int .i64 0]) rfl rfl (by simp;omega) (by simp) fun v9 G9 k9 ot nb f9=>?_
   exact fin G9 v9 (R++[0]) (kb7.keep k9) (s7.keep k9 (by omega)) (ot _ _ hbk oc7) (by have:=f9.less (show H1.length+1≤G3.length by omega);simpa using this) (by simp;omega)
  ·unfold F95.B4
   refine zaa (fun _=>?_) fun _=>dflt
   unfold F95.B3
   refine zaf rfl fun G8 l8 n8 o8=>?_
   have hs7:=s7.lt
   refine zbf (l:=[2,-1]) (s7.le l8) (zau (l:=[2,-1]) o8) (by simp) (by simp) (fun x hx=>by simp at hx;omega) (fun G3 k3=>zau (l:=[2,-1]) (k3.own o8 (by omega))) fun r' G9 k9 s9 hr=>zag ?_
   have k79:=(Kb.of_le l8).trans k9
   have f9:=zaC f7 k79 (by omega)
   have oc9:=k79.own oc7 (by omega)
   rcases f9 with ⟨e0,_⟩|⟨b,c,hb,rfl,ob,hcl⟩
   ·have:=congrArg List.length e0
    rw [List.length_map,List.length_nil] at this;omega
   rw [List.length_map,Nat.mul_one] at hcl
   subst hcl
   refine zan (by omega) (by omega) (zaO ob (by rw [List.length_map];simp;omega) rfl fun G10 b10 o10=>?_)
   have hbs:b≠G4.length:=fun e=>hbk (by rw [e];rfl)
   have ho10:Own G10 b 2 (LI (R.set 0 r')):=by simpa using o10
   refine fin G10 _ (R.set 0 r') ⟨?_,fun q o hq ho=>?_⟩ ?_ (b10.own oc9 (Ne.symm hbs)) (.inr ⟨b,_,by omega,rfl,ho10,by simp⟩) (by simp;omega)
   ·rw [b10.len];exact (kb7.trans k79).len
   ·have:=zaj ho
    rw [b10.same q (by omega)]
    exact (kb7.trans k79).old q o hq ho
   ·exact s9.but b10 (by omega)
theorem znG (hB:Byts H u l) (hl:l.length≤4096) (k:DrwL H K):AC Tryz.prog T0 32 [u] H K:=by
 apply F32.ac
 unfold F32.B3
 refine zaf rfl fun H1 l1 n1 o1=>?_
 unfold F32.B2
 refine zhg (hB.le l1) hl fun v2 n2 es2 w2 l2 G2 g2 h2 f2 c1 c2 c3 c4=>zaB (zax (zag (zaf rfl fun G4 l4 n4 o4=>zaG (new:=[.int .i64 n2,v2]) o4 (by simp) (zaT (zbN h2)) rfl fun G5 b5 o5=>?_)))
 have l5:G2.le G5:=b5.le l4 (Nat.le_refl _)
 unfold F32.B1
 refine zac o5 rfl (zab o5 rfl ?_)
 rw [n1] at h2 f2
 exact zci k (AHeap.le_trans (AHeap.le_trans l1 g2) l5) (Nat.le_refl _) ((o1.le g2).le l5) (h2.le l5) (f2.le l5) c1 c2 c3 c4
theorem zl0 (hB:Byts H u l) (hl:l.length≤4096) (k:DrwL H K):AC Tryz.prog T0 37 [u] H K:=by
 apply F37.ac
 unfold F37.B3
 refine zaf rfl fun H1 l1 n1 o1=>?_
 unfold F37.B2
 refine zhg (hB.le l1) hl fun v2 n2 es2 w2 l2 G2 g2 h2 f2 c1 c2 c3 c4=>zaB (zax (zag (zaf rfl fun G4 l4 n4 o4=>zaG (new:=[.int .i64 n2,v2]) o4 (by simp) (zaT (zbN h2)) rfl fun G5 b5 o5=>?_)))
 have l5:G2.le G5:=b5.le l4 (Nat.le_refl _)
 unfold F37.B1
 refine zac o5 rfl (zab o5 rfl ?_)
 rw [n1] at h2 f2
 exact zci k (AHeap.le_trans (AHeap.le_trans l1 g2) l5) (Nat.le_refl _) ((o1.le g2).le l5) (h2.le l5) (f2.le l5) c1 c2 c3 c4
theorem zlT (hB:Byts H u l) (hl:l.length≤4096) (k:DrwK H K):AC Tryz.prog T0 40 [u] H K:=by
 apply F40.ac
 unfold F40.B8
 refine zaf rfl fun H1 l1 n1 o1=>?_
 unfold F40.B7
 refine zaV (hB.le l1) hl fun G1 g1 s1=>?_
 have hs1:=s1.lt
 have hlt:=o1.lt
 have ob1:=o1.le g1
 unfold F40.B6
 refine zav s1 fun r G2 k2 s2 _ _ _=>zag (zaa (fun hb=>?_) fun hb=>?_)
 ·unfold F40.B5
  have hk2:=k2.len
  refine zcF s2 fun v2 n2 es2 G3 k3 s3 h3 c3 _ _=>zax (zag ?_)
  exact za1 ((k2.trans k3).own ob1 (by omega)) (AHeap.le_trans l1 s3.1) (Nat.le_refl _) h3 (by omega) fun G' _ lG eG=>k v2 n2 es2 G' lG (eG.less (by omega)) c3
 ·unfold F40.B4
  have hk2:=k2.len
  refine zcr s2 fun v2 n2 es2 G3 k3 s3 f3 g3 a b=>zax (zag (zaf rfl fun G4 l4 n4 o4=>zaG (new:=[.int .i64 n2,v2]) o4 (by simp) (zaT (zaw f3)) rfl fun G5 b5 o5=>?_))
  have hk3:=k3.len
  have l5:G3.le G5:=b5.le l4 (Nat.le_refl _)
  have k15:=(k2.trans k3).trans (.of_le l5)
  have hl5:=l5.1
  -- the end
  have fin:∀ G v n es,Kb H1.length G3 G→Src H1 H1.length G→Own G G3.length 26 [.int .i64 n,v]→Sl (H1.length+1) G v 66 2 (LE es)→Gd2 n es→F40.B1 K H.length (.pointer (some ⟨H1.length,0,none⟩)) G3.length G:=by
   intro G v n es kG sG oG hv hg
   unfold F40.B1
   refine zac oG rfl (zab oG rfl (zbj sG hv hg fun v4 n4 es4 G4 k4 s4 h4 _ c4 _ _=>zax (zag ?_)))
   exact za1 ((((k2.trans k3).trans kG).trans k4).own ob1 (by omega)) (AHeap.le_trans l1 s4.1) (Nat.le_refl _) h4 (by omega) fun G' _ lG eG=>k v4 n4 es4 G' lG (eG.less (by omega)) c4
  have f5:Sl (H1.length+1) G5 v2 66 2 (LE es2):=(f3.le l5).sl.less (by omega)
  have dflt:∀ G,Kb H1.length G5 G→Src H1 H1.length G→F40.B1 K H.length (.pointer (some ⟨H1.length,0,none⟩)) G3.length G:=fun G kG sG=>
   fin G v2 n2 es2 ((Kb.of_le l5).trans kG) sG (kG.own o5 (by omega)) (zcW f5 kG) (g3.two a (by omega))
  unfold F40.B3
  refine zac o5 rfl (zaa (fun _=>?_) fun _=>dflt G5 .refl (s3.le l5))
  refine zav (s3.le l5) fun r6 G6 k6 s6 _ _ _=>zag (zaa (fun _=>?_) fun _=>dflt G6 k6 s6)
  unfold F40.B2
  have hk6:=k6.len
  have ho5:=o5.lt
  refine zhz s6 (by decide) (by decide) (by decide) fun v7 es7 G7 k7 s7 f7 g7=>zax (zag ?_)
  have o7:=(k6.trans k7).own o5 (by omega)
  refine zaG (new:=[.int .i64 6,v7]) o7 (by simp) (zaT (zaw f7)) rfl fun G8 b8 o8=>?_
  refine fin G8 v7 6 es7 ((((Kb.of_le l5).trans k6).trans k7).but b8 (Nat.le_refl _)) (s7.but b8 (by omega)) o8 ((f7.but b8 (by omega)).sl.less (by omega)) (g7.two (by decide) (by decide))
end Go.Proofs
namespace Go.Proofs
open Go.Abs

variable {es:List (Int × Int)} {p q:Nat→Bool} {n:Int} {e en:Nat}

def eaN (es:List (Int × Int)) (e:Nat):Nat:=(es.getD e (0,0)).1.toNat
def ebN (es:List (Int × Int)) (e:Nat):Nat:=(es.getD e (0,0)).2.toNat
theorem zdj (he:EndsIn n es) (hi:e<es.length):es.getD e (0,0)=((eaN es e:Int),(ebN es e:Int))∧eaN es e≠ebN es e∧(eaN es e:Int)<n∧(ebN es e:Int)<n∧∀ y:Nat,on (es.getD e (0,0)) y=decide (y=eaN es e∨y=ebN es e):=by
 obtain ⟨a,b,hab,hne,ha,hb⟩:=he.get e hi
 unfold eaN ebN
 rw [hab]
 simp only [Int.toNat_natCast]
 refine ⟨trivial,hne,ha,hb,fun y=>?_⟩
 unfold on
 by_cases h1:y=a
 ·subst h1;simp
 ·by_cases h2:y=b
  ·subst h2;simp
  ·have g1:¬ (a:Int)=y:=by omega
   have g2:¬ (b:Int)=y:=by omega
   simp [h1,h2,g1,g2]
structure CyP (n:Int) (es:List (Int × Int)) (e:Nat) (x:List Int):Prop where
 s:IsS x es.length
 ev:EvenS n es (bitB x)
 mem:(e:Int)∈x
 lo:∀ i∈x,(e:Int)≤i
 con:∀ j,bitB x j=true→Rch (eAdj es (bitB x)) e j
theorem zxr {x:List Int} (h:CyP n es e x):cycB n es x=true:=by
 unfold cycB
 rw [decide_eq_true h.ev,Bool.true_and]
 have hx:(cycOf es (bitB x) x).length=1:=by
  unfold cycOf
  rw [List.length_map]
  have hlead:∀ i∈x,cLeadB es (bitB x) i.toNat=decide (i=(e:Int)):=fun i hi=>by
   have hr:=h.s.range i hi
   have hp:bitB x i.toNat=true:=(zaD h.s _).2 (by rwa [Int.toNat_of_nonneg hr.1])
   have hpe:bitB x e=true:=(zaD h.s _).2 h.mem
   rw [Bool.eq_iff_iff,zaK,decide_eq_true_iff]
   constructor
   ·intro hc
    apply Classical.byContradiction
    intro hne
    have:=h.lo i hi
    exact hc e (by omega) hpe (h.con _ hp)
   ·rintro rfl j hj hpj
    have:=h.lo j ((zaD h.s j).1 hpj)
    omega
  rw [List.filter_congr hlead]
  have hnd:=zdl h.s.asc
  obtain ⟨A,B,hAB⟩:=List.append_of_mem h.mem
  rw [hAB] at hnd ⊢
  rw [List.nodup_append,List.nodup_cons] at hnd
  rw [List.filter_append,List.filter_cons,if_pos (by simp),List.filter_eq_nil_iff.2 (fun a ha=>by
   have:=hnd.2.2 a ha (e:Int) (by simp)
   simpa using this),List.filter_eq_nil_iff.2 (fun a ha=>by
   have:a≠(e:Int):=by rintro rfl;exact hnd.2.1.1 ha
   simpa using this)]
  rfl
 rw [hx];rfl
end Go.Proofs
namespace Go.Proofs
open Go.Abs

def itF (f:Nat→Nat):Nat→Nat→Nat
 | 0,d=>d
 | k+1,d=>f (itF f k d)
theorem zeF (f:Nat→Nat) (a b d:Nat):itF f (a+b) d=itF f a (itF f b d):=by
 induction a with
 | zero=>rw [Nat.zero_add];rfl
 | succ a ih=>rw [Nat.succ_add];show f _=f _;rw [ih]
structure PmF (f:Nat→Nat) (N:Nat):Prop where
 rng:∀ d,d<N→f d<N
 inj:∀ d e,d<N→e<N→f d=f e→d=e
variable {f g rv:Nat→Nat} {N d e i k:Nat}
theorem PmF.it (h:PmF f N) (hd:d<N):∀ k,itF f k d<N
 | 0=>hd
 | k+1=>h.rng _ (h.it hd k)
theorem PmF.itinj (h:PmF f N) (hd:d<N) (he:e<N):∀ k,itF f k d=itF f k e→d=e
 | 0,q=>q
 | k+1,q=>h.itinj hd he k (h.inj _ _ (h.it hd k) (h.it he k) q)
theorem PmF.cyc (h:PmF f N) (hd:d<N):∃ p,0<p∧itF f p d=d:=by
 by_cases hn:((List.range (N+1)).map fun k=>itF f k d).Nodup
 ·exfalso
  have:=zbP hn (m:=List.range N) fun x hx=>by
   obtain ⟨k,_,rfl⟩:=List.mem_map.1 hx
   exact List.mem_range.2 (h.it hd k)
  simp only [List.length_map,List.length_range] at this
  omega
 ·unfold List.Nodup at hn
  rw [List.pairwise_iff_getElem] at hn
  simp only [List.length_map,List.length_range,List.getElem_map,List.getElem_range,Classical.not_forall,Classical.not_not] at hn
  obtain ⟨i,j,hi,hj,hij,he⟩:=hn
  refine ⟨j-i,by omega,?_⟩
  have e1:itF f j d=itF f i (itF f (j-i) d):=by rw [← zeF];congr 1;omega
  rw [e1] at he
  exact (h.itinj hd (h.it hd _) i he).symm
def IsPer (f:Nat→Nat) (d p:Nat):Prop:=0<p∧itF f p d=d∧∀ k,0<k→k<p→itF f k d≠d
theorem IsPer.uniq {p q:Nat} (h:IsPer f d p) (k:IsPer f d q):p=q:=by
 rcases Nat.lt_trichotomy p q with l|l|l
 ·exact absurd h.2.1 (k.2.2 p h.1 l)
 ·exact l
 ·exact absurd k.2.1 (h.2.2 q k.1 l)
theorem PmF.hasPer (h:PmF f N) (hd:d<N):∃ p,IsPer f d p:=by
 obtain ⟨p,h1,h2⟩:=h.cyc hd
 induction p using Nat.strongRecOn with
 | _ p ih=>
  by_cases hx:∃ k,0<k∧k<p∧itF f k d=d
  ·obtain ⟨k,k1,k2,k3⟩:=hx
   exact ih k k2 k1 k3
  ·exact ⟨p,h1,h2,fun k k1 k2 k3=>hx ⟨k,k1,k2,k3⟩⟩
noncomputable def per (f:Nat→Nat) (d:Nat):Nat:=@dite Nat (∃ p,IsPer f d p) (Classical.propDecidable _) (fun h=>Classical.choose h) fun _=>0
theorem IsPer.eq {p:Nat} (h:IsPer f d p):per f d=p:=by
 have hx:∃ p,IsPer f d p:=⟨p,h⟩
 unfold per
 rw [dif_pos hx]
 exact (Classical.choose_spec hx).uniq h
theorem PmF.isPer (h:PmF f N) (hd:d<N):IsPer f d (per f d):=by
 obtain ⟨p,hp⟩:=h.hasPer hd
 rw [hp.eq];exact hp
def Orb (f:Nat→Nat) (d x:Nat):Prop:=∃ k,itF f k d=x
theorem Orb.refl:Orb f d d:=⟨0,rfl⟩
theorem Orb.trans {a b c:Nat} (h:Orb f a b) (k:Orb f b c):Orb f a c:=by
 obtain ⟨i,rfl⟩:=h
 obtain ⟨j,rfl⟩:=k
 exact ⟨j+i,zeF f j i a⟩
theorem Orb.next (h:Orb f d e):Orb f d (f e):=h.trans ⟨1,rfl⟩
theorem PmF.orb (h:PmF f N) (hd:d<N) (ho:Orb f d e):e<N:=by
 obtain ⟨k,rfl⟩:=ho;exact h.it hd k
theorem PmF.itmul (h:PmF f N) (hd:d<N) (p:Nat) (hp:itF f p d=d):∀ q,itF f (q*p) d=d
 | 0=>by rw [Nat.zero_mul];rfl
 | q+1=>by rw [Nat.succ_mul,zeF,hp];exact h.itmul hd p hp q
theorem PmF.symm (h:PmF f N) (hd:d<N) (ho:Orb f d e):Orb f e d:=by
 obtain ⟨k,rfl⟩:=ho
 obtain ⟨p,p1,p2⟩:=h.cyc hd
 refine ⟨k*p-k,?_⟩
 rw [← zeF,show k*p-k+k=k*p by have:k*1≤k*p:=Nat.mul_le_mul_left k p1;omega]
 exact h.itmul hd p p2 k
theorem PmF.back (h:PmF f N) (hd:d<N) (he:e<N) (ho:Orb f d (f e)):Orb f d e:=by
 have h1:Orb f (f e) d:=h.symm hd ho
 have h2:Orb f e (f e):=⟨1,rfl⟩
 exact h.symm he (h2.trans h1)
theorem IsPer.ne (h:PmF f N) (hd:d<N) {p i j:Nat} (hp:IsPer f d p) (hij:i<j) (hj:j<p):itF f i d≠itF f j d:=fun e=>by
 have e1:itF f j d=itF f i (itF f (j-i) d):=by rw [← zeF];congr 1;omega
 rw [e1] at e
 exact hp.2.2 (j-i) (by omega) (by omega) (h.itinj hd (h.it hd _) i e).symm
theorem IsPer.mod {p:Nat} (hp:IsPer f d p):∀ k,itF f k d=itF f (k%p) d:=fun k=>by
 induction k using Nat.strongRecOn with
 | _ k ih=>
  by_cases hk:k<p
  ·rw [Nat.mod_eq_of_lt hk]
  ·rw [Nat.mod_eq_sub_mod (by omega),← ih (k-p) (by have:=hp.1;omega)]
   conv=>lhs;rw [show k=(k-p)+p by omega,zeF,hp.2.1]
noncomputable def orbL (f:Nat→Nat) (d:Nat):List Nat:=(List.range (per f d)).map fun k=>itF f k d
theorem PmF.mem_orbL (h:PmF f N) (hd:d<N) {x:Nat}:x∈orbL f d↔Orb f d x:=by
 have hp:=h.isPer hd
 unfold orbL
 rw [List.mem_map]
 constructor
 ·rintro ⟨k,_,rfl⟩;exact ⟨k,rfl⟩
 ·rintro ⟨k,rfl⟩
  exact ⟨k%per f d,List.mem_range.2 (Nat.mod_lt _ hp.1),(hp.mod k).symm⟩
theorem PmF.orbL_nodup (h:PmF f N) (hd:d<N):(orbL f d).Nodup:=by
 have hp:=h.isPer hd
 unfold orbL List.Nodup
 rw [List.pairwise_iff_getElem]
 intro i j hi hj hij
 rw [List.getElem_map,List.getElem_map,List.getElem_range,List.getElem_range]
 rw [List.length_map,List.length_range] at hj
 exact hp.ne h hd hij hj
def LdF (f:Nat→Nat) (d:Nat):Prop:=∀ e,e<d→¬ Orb f e d
noncomputable def leadF (f:Nat→Nat) (d:Nat):Bool:=@decide (LdF f d) (Classical.propDecidable _)
theorem zjd:leadF f d=true↔LdF f d:=by
 unfold leadF;exact @decide_eq_true_iff _ (Classical.propDecidable _)
noncomputable def leads (f:Nat→Nat) (N:Nat):List Nat:=(List.range N).filter (leadF f)
theorem zkm {t:Nat}:leads f (t+1)=leads f t++if leadF f t=true then [t] else []:=by
 unfold leads
 rw [List.range_succ,List.filter_append]
 congr 1
 cases h:leadF f t <;> simp [h]
theorem za7:d∈leads f N↔d<N∧LdF f d:=by
 unfold leads
 rw [List.mem_filter,List.mem_range,zjd]
def MtF (f:Nat→Nat) (t x:Nat):Prop:=∃ e,e<t∧Orb f e x
theorem MtF.lead {t:Nat}:LdF f t↔¬ MtF f t t:=⟨fun h ⟨e,h1,h2⟩=>h e h1 h2,fun h e h1 h2=>h ⟨e,h1,h2⟩⟩
theorem PmF.mt_back (h:PmF f N) {t:Nat} (ht:t≤N) (he:e<N) (hm:MtF f t (f e)):MtF f t e:=by
 obtain ⟨a,h1,h2⟩:=hm
 exact ⟨a,h1,h.back (by omega) he h2⟩
theorem MtF.succ {t x:Nat}:MtF f (t+1) x↔MtF f t x∨Orb f t x:=by
 constructor
 ·rintro ⟨e,h1,h2⟩
  by_cases h:e=t
  ·subst h;exact .inr h2
  ·exact .inl ⟨e,by omega,h2⟩
 ·rintro (⟨e,h1,h2⟩|h)
  ·exact ⟨e,by omega,h2⟩
  ·exact ⟨t,by omega,h⟩
theorem PmF.mt_lead (h:PmF f N) {t:Nat} (ht:t<N) (hn:¬ LdF f t) (x:Nat):MtF f (t+1) x↔MtF f t x:=by
 rw [MtF.succ]
 refine ⟨fun hx=>hx.elim id fun hx=>?_,.inl⟩
 obtain ⟨e,h1,h2⟩:=Classical.not_not.1 fun hh=>hn (MtF.lead.2 hh)
 exact ⟨e,h1,h2.trans hx⟩
theorem PmF.walk (h:PmF f N) {t:Nat} (ht:t<N) (hl:LdF f t) {i:Nat} (hi:0<i) (hd:∀ a b,a<b→b<i→itF f a t≠itF f b t) (hm:MtF f t (itF f i t)∨∃ j,j<i∧itF f j t=itF f i t):IsPer f t i:=by
 have hn:¬ MtF f t (itF f i t):=by
  intro hx
  have:∀ k,MtF f t (itF f k t)→MtF f t t:=fun k=>by
   induction k with
   | zero=>exact id
   | succ k ih=>exact fun hk=>ih (h.mt_back (by omega) (h.it ht k) hk)
  exact MtF.lead.1 hl (this i hx)
 rcases hm with hm|⟨j,hj,he⟩
 ·exact absurd hm hn
 ·have e1:itF f i t=itF f j (itF f (i-j) t):=by rw [← zeF];congr 1;omega
  rw [e1] at he
  have he2:=(h.itinj ht (h.it ht _) j he).symm
  have hj0:j=0:=by
   apply Classical.byContradiction
   intro hne
   exact hd 0 (i-j) (by omega) (by omega) he2.symm
  subst hj0
  refine ⟨hi,by rw [Nat.sub_zero] at he2;exact he2,fun k k1 k2 k3=>hd 0 k k1 k2 k3.symm⟩
noncomputable def allF (f:Nat→Nat) (N:Nat):List Nat:=(leads f N).flatMap (orbL f)
theorem PmF.has_lead (h:PmF f N) (hd:d<N):∃ e,e∈leads f N∧Orb f e d:=by
 induction d using Nat.strongRecOn with
 | _ d ih=>
  by_cases hl:LdF f d
  ·exact ⟨d,za7.2 ⟨hd,hl⟩,.refl⟩
  ·obtain ⟨e,h1,h2⟩:=Classical.not_not.1 fun hh=>hl (MtF.lead.2 hh)
   obtain ⟨a,a1,a2⟩:=ih e h1 (by omega)
   exact ⟨a,a1,a2.trans h2⟩
theorem PmF.lead_eq (h:PmF f N) {a b:Nat} (ha:a∈leads f N) (hb:b∈leads f N) (ho:Orb f a b):a=b:=by
 have ha:=za7.1 ha
 have hb:=za7.1 hb
 rcases Nat.lt_trichotomy a b with l|l|l
 ·exact absurd ho (hb.2 a l)
 ·exact l
 ·exact absurd (h.symm ha.1 ho) (ha.2 b l)
theorem zf7:(leads f N).Nodup:=List.nodup_range.filter _
theorem PmF.mem_allF (h:PmF f N) {x:Nat}:x∈allF f N↔x<N:=by
 unfold allF
 rw [List.mem_flatMap]
 constructor
 ·rintro ⟨a,h1,h2⟩
  have ha:=(za7.1 h1).1
  exact h.orb ha ((h.mem_orbL ha).1 h2)
 ·intro hx
  obtain ⟨a,a1,a2⟩:=h.has_lead hx
  exact ⟨a,a1,(h.mem_orbL (za7.1 a1).1).2 a2⟩
theorem PmF.allF_nodup (h:PmF f N):(allF f N).Nodup:=by
 unfold allF
 refine zfr zf7 (fun a ha=>h.orbL_nodup (za7.1 ha).1) fun a ha b hb hne x hx hx'=>?_
 have a1:=(za7.1 ha).1
 have b1:=(za7.1 hb).1
 have h1:=(h.mem_orbL a1).1 hx
 have h2:=(h.mem_orbL b1).1 hx'
 exact hne (h.lead_eq ha hb (h1.trans (h.symm b1 h2)))
theorem PmF.allF_perm (h:PmF f N):(allF f N).Perm (List.range N):=by
 refine (List.perm_ext_iff_of_nodup h.allF_nodup List.nodup_range).2 fun x=>?_
 rw [h.mem_allF,List.mem_range]
theorem PmF.turned (hf:PmF f N) (hg:PmF g N) (hr:∀ d,d<N→rv d<N) (hrr:∀ d,d<N→rv (rv d)=d) (hfg:∀ d,d<N→g (rv (f d))=rv d):(leads f N).length≤(leads g N).length:=by
 have key:∀ k d,d<N→itF g k (rv (itF f k d))=rv d:=fun k=>by
  induction k with
  | zero=>intro d _;rfl
  | succ k ih=>
   intro d hd
   have e1:itF f (k+1) d=itF f k (f d):=by
    have:=zeF f k 1 d;exact this
   have e2:∀ x,itF g (k+1) x=g (itF g k x):=fun _=>rfl
   rw [e1,e2,ih (f d) (hf.rng d hd),hfg d hd]
 have hor:∀ {a b},a<N→Orb f a b→Orb g (rv b) (rv a):=fun {a b} ha ho=>by
  obtain ⟨k,rfl⟩:=ho
  exact ⟨k,key k a ha⟩
 have hback:∀ {a b},a<N→b<N→Orb g (rv a) (rv b)→Orb f a b:=fun {a b} ha hb ho=>by
  obtain ⟨k,hk⟩:=ho
  obtain ⟨c,hc1,hc2⟩:∃ c,c<N∧itF f k c=a:=by
   have hs:∀ k a,a<N→∃ c,c<N∧itF f k c=a:=fun k=>by
    induction k with
    | zero=>exact fun a ha=>⟨a,ha,rfl⟩
    | succ k ih=>
     intro a ha
     obtain ⟨p,p1,p2⟩:=hf.cyc ha
     have hy:f (itF f (p-1) a)=a:=by
      have:itF f (p-1+1) a=a:=by rw [Nat.sub_add_cancel p1];exact p2
      exact this
     obtain ⟨c,c1,c2⟩:=ih (itF f (p-1) a) (hf.it ha _)
     exact ⟨c,c1,by show f _=a;rw [c2];exact hy⟩
   exact hs k a ha
  have:=key k c hc1
  rw [hc2,hk] at this
  have e:b=c:=by rw [← hrr b hb,← hrr c hc1,this]
  subst e
  exact hf.symm hc1 ⟨k,hc2⟩
 obtain ⟨ch,hch⟩:∃ ch:Nat→Nat,∀ d,d<N→ch d∈leads g N∧Orb g (ch d) (rv d):=by
  refine ⟨fun d=>@dite Nat (∃ e,e∈leads g N∧Orb g e (rv d)) (Classical.propDecidable _) (fun h=>Classical.choose h) fun _=>0,fun d hd=>?_⟩
  have hx:=hg.has_lead (hr d hd)
  simp only [dif_pos hx]
  exact Classical.choose_spec hx
 have hnd:((leads f N).map ch).Nodup:=by
  unfold List.Nodup
  rw [List.pairwise_map]
  refine List.Pairwise.imp_of_mem (R:=fun a b=>a≠b) (fun {a b} ha hb hab he=>?_) zf7
  have ha1:=(za7.1 ha).1
  have hb1:=(za7.1 hb).1
  obtain ⟨p1,p2⟩:=hch a ha1
  obtain ⟨q1,q2⟩:=hch b hb1
  rw [he] at p2
  have:=hg.symm (za7.1 q1).1 p2
  exact hab (hf.lead_eq ha hb (hback ha1 hb1 (this.trans q2)))
 have:=zbP hnd (m:=leads g N) fun x hx=>by
  obtain ⟨d,hd,rfl⟩:=List.mem_map.1 hx
  exact (hch d (za7.1 hd).1).1
 simpa using this
end Go.Proofs
namespace Go.Proofs
open Go.Abs

variable {es:List (Int × Int)} {n:Int} {r r':Nat→Nat} {d e v:Nat}

def hdD (es:List (Int × Int)) (d:Nat):Nat:=if d%2=0 then ebN es (d/2) else eaN es (d/2)
def tlD (es:List (Int × Int)) (d:Nat):Nat:=if d%2=0 then eaN es (d/2) else ebN es (d/2)
def rvD (d:Nat):Nat:=if d%2=0 then d+1 else d-1
def ps3 (a:List Int) (e:Int):Nat:=if a.getD 0 0=e then 0 else if a.getD 1 0=e then 1 else 2
def outD (es:List (Int × Int)) (e v:Nat):Nat:=2*e+(if eaN es e=v then 0 else 1)
def nxD (es:List (Int × Int)) (r:Nat→Nat) (d:Nat):Nat:=
 outD es ((atL es (hdD es d:Int)).getD ((ps3 (atL es (hdD es d:Int)) ((d/2:Nat):Int)+1+r (hdD es d))%3) 0).toNat (hdD es d)
theorem zt3 (hg:IsG n es) (he:e<es.length):eaN es e≠ebN es e∧(eaN es e:Int)<n∧(ebN es e:Int)<n:=by
 obtain ⟨q1,q2,q3,q4,q5⟩:=zdj hg.endsIn he
 exact ⟨q2,by omega,by omega⟩
theorem zmn (hg:IsG n es) (he:e<es.length):on (es.getD e (0,0)) (v:Int)=true↔v=eaN es e∨v=ebN es e:=by
 obtain ⟨q1,q2,q3,q4,q5⟩:=zdj hg.endsIn he
 rw [q1]
 simp only [on,Bool.or_eq_true,beq_iff_eq]
 omega
theorem zmU (hg:IsG n es) (hd:d<2*es.length):(hdD es d:Int)<n:=by
 have:=zt3 hg (e:=d/2) (by omega)
 unfold hdD;split <;> omega
theorem zze (hg:IsG n es) (hd:d<2*es.length):on (es.getD (d/2) (0,0)) (hdD es d:Int)=true:=by
 rw [zmn hg (by omega)]
 unfold hdD;split
 ·exact .inr rfl
 ·exact .inl rfl
theorem zkT:outD es e v/2=e:=by unfold outD;split <;> omega
theorem zAA (hg:IsG n es) (he:e<es.length) (ho:on (es.getD e (0,0)) (v:Int)=true):tlD es (outD es e v)=v:=by
 rw [zmn hg he] at ho
 unfold tlD
 rw [zkT]
 unfold outD
 by_cases h:eaN es e=v
 ·rw [if_pos h,if_pos (by omega)];exact h
 ·rw [if_neg h,if_neg (by omega)]
  rcases ho with h1|h1
  ·exact absurd h1.symm h
  ·exact h1.symm
theorem at3 (hg:IsG n es) (hv:(v:Int)<n):∃ a b c:Nat,atL es (v:Int)=[(a:Int),(b:Int),(c:Int)]∧a<b∧b<c∧c<es.length∧∀ x:Nat,x<es.length→on (es.getD x (0,0)) (v:Int)=true→x=a∨x=b∨x=c:=by
 have h3:=hg.three (v:=(v:Int)) (by omega) hv
 have hasc:Asc (atL es (v:Int)):=zaL _ _
 have hm:∀ x,x∈atL es (v:Int)↔∃ i:Nat,x=i∧i<es.length∧on (es.getD i (0,0)) (v:Int)=true:=fun x=>zaN
 match hL:atL es (v:Int),h3,hasc,hm with
 | [x,y,z],_,hasc,hm=>
  obtain ⟨a,rfl,a1,a2⟩:=(hm x).1 (by simp)
  obtain ⟨b,rfl,b1,b2⟩:=(hm y).1 (by simp)
  obtain ⟨c,rfl,c1,c2⟩:=(hm z).1 (by simp)
  unfold Asc at hasc
  simp only [List.pairwise_cons,List.mem_cons,List.not_mem_nil,or_false,forall_eq_or_imp,forall_eq] at hasc
  refine ⟨a,b,c,rfl,by omega,by omega,c1,fun x hx ho=>?_⟩
  have:=(hm (x:Int)).2 ⟨x,rfl,hx,ho⟩
  simp only [List.mem_cons,List.not_mem_nil,or_false] at this
  omega
theorem zcZ (hg:IsG n es) (r:Nat→Nat) (hd:d<2*es.length):∃ i,i<3∧ps3 (atL es (hdD es d:Int)) ((d/2:Nat):Int)=i∧(atL es (hdD es d:Int)).getD i 0=((d/2:Nat):Int)∧
 (atL es (hdD es d:Int)).getD ((i+1+r (hdD es d))%3) 0=((nxD es r d/2:Nat):Int)∧nxD es r d<2*es.length∧tlD es (nxD es r d)=hdD es d∧nxD es r d=outD es (nxD es r d/2) (hdD es d):=by
 obtain ⟨a,b,c,h1,h2,h3,h4,h5⟩:=at3 hg (zmU hg hd)
 have hx:=h5 (d/2) (by omega) (zze hg hd)
 obtain ⟨i,i3,hi,hg'⟩:∃ i,i<3∧ps3 (atL es (hdD es d:Int)) ((d/2:Nat):Int)=i∧(atL es (hdD es d:Int)).getD i 0=((d/2:Nat):Int):=by
  rw [h1]
  unfold ps3
  rcases hx with e|e|e
  ·exact ⟨0,by omega,by simp [e],by simp [e]⟩
  ·refine ⟨1,by omega,?_,by simp [e]⟩
   rw [if_neg (by simp;omega),if_pos (by simp [e])]
  ·refine ⟨2,by omega,?_,by simp [e]⟩
   rw [if_neg (by simp;omega),if_neg (by simp;omega)]
 have hj:(i+1+r (hdD es d))%3<3:=Nat.mod_lt _ (by omega)
 obtain ⟨j,hjj⟩:∃ j,j=(i+1+r (hdD es d))%3:=⟨_,rfl⟩
 have hm:(atL es (hdD es d:Int)).getD j 0∈atL es (hdD es d:Int):=by
  have hl:j<(atL es (hdD es d:Int)).length:=by rw [h1];simp;omega
  rw [zae hl];exact List.getElem_mem _
 obtain ⟨e',e1,e2,e3⟩:=zaN.1 hm
 have hn:nxD es r d=outD es e' (hdD es d):=by
  unfold nxD
  rw [hi,← hjj,e1,Int.toNat_natCast]
 refine ⟨i,i3,hi,hg',?_,?_,?_,?_⟩
 ·rw [← hjj,e1,hn,zkT]
 ·rw [hn];unfold outD;split <;> omega
 ·rw [hn];exact zAA hg e2 e3
 ·rw [hn,zkT]
theorem zpR (hg:IsG n es) (hv:(v:Int)<n) {i j:Nat} (hi:i<3) (hj:j<3) (h:(atL es (v:Int)).getD i 0=(atL es (v:Int)).getD j 0):i=j:=by
 obtain ⟨a,b,c,h1,h2,h3,h4,h5⟩:=at3 hg hv
 rw [h1] at h
 have hi':i=0∨i=1∨i=2:=by omega
 have hj':j=0∨j=1∨j=2:=by omega
 rcases hi' with rfl|rfl|rfl <;> rcases hj' with rfl|rfl|rfl <;> simp at h <;> omega
theorem zlh (hg:IsG n es) (hd:d<2*es.length) (he:e<2*es.length) (h1:d/2=e/2) (h2:hdD es d=hdD es e):d=e:=by
 have:=(zt3 hg (e:=e/2) (by omega)).1
 unfold hdD at h2
 rw [h1] at h2
 by_cases a:d%2=0 <;> by_cases b:e%2=0
 ·omega
 ·rw [if_pos a,if_neg b] at h2;exact absurd h2.symm this
 ·rw [if_neg a,if_pos b] at h2;exact absurd h2 this
 ·omega
theorem zeK (hg:IsG n es) (r:Nat→Nat):PmF (nxD es r) (2*es.length):=by
 refine ⟨fun d hd=>?_,fun d e hd he hde=>?_⟩
 ·obtain ⟨i,_,_,_,_,h,_⟩:=zcZ hg r hd
  exact h
 ·obtain ⟨i,i3,_,i2,i4,_,i6,_⟩:=zcZ hg r hd
  obtain ⟨j,j3,_,j2,j4,_,j6,_⟩:=zcZ hg r he
  rw [hde,j6] at i6
  rw [hde,← j4,← i6] at i4
  rw [← i6] at i2
  have hij:=zpR hg (zmU hg he) (Nat.mod_lt _ (by omega)) (Nat.mod_lt _ (by omega)) i4
  have:i=j:=by omega
  subst this
  rw [i2] at j2
  exact zlh hg hd he (by omega) i6.symm
theorem zwb (hd:d<2*es.length):rvD d<2*es.length:=by unfold rvD;split <;> omega
theorem zAm:rvD (rvD d)=d:=by unfold rvD;split <;> split <;> omega
theorem ziR:rvD d/2=d/2:=by unfold rvD;split <;> omega
theorem zz0:hdD es (rvD d)=tlD es d:=by
 unfold hdD tlD
 rw [ziR]
 unfold rvD
 by_cases h:d%2=0
 ·rw [if_pos h,if_neg (by omega)];simp [h]
 ·rw [if_neg h,if_pos (by omega)];simp [h]
theorem zAc (hg:IsG n es) (hd:d<2*es.length):outD es (d/2) (hdD es d)=rvD d:=by
 have:=(zt3 hg (e:=d/2) (by omega)).1
 unfold outD hdD rvD
 by_cases h:d%2=0
 ·rw [if_pos h,if_neg this]
  simp [h];omega
 ·rw [if_neg h]
  simp [h];omega
theorem zrP (hg:IsG n es) (hr:∀ v:Nat,(v:Int)<n→r v≤1∧r' v=1-r v) (hd:d<2*es.length):nxD es r' (rvD (nxD es r d))=rvD d:=by
 obtain ⟨i,i3,i1,i2,i4,i5,i6,i7⟩:=zcZ hg r hd
 have hv:=zmU hg hd
 obtain ⟨j,j3,j1,j2,j4,j5,j6,j7⟩:=zcZ hg r' (zwb i5)
 rw [ziR] at j2
 have hh:hdD es (rvD (nxD es r d))=hdD es d:=by rw [zz0,i6]
 rw [hh] at j2 j4 j7
 obtain ⟨k1,k2⟩:=hr _ hv
 have e1:=zpR hg hv j3 (Nat.mod_lt _ (by omega)) (j2.trans i4.symm)
 have e2:(j+1+r' (hdD es d))%3=i:=by omega
 rw [e2,i2] at j4
 rw [j7,← show d/2=nxD es r' (rvD (nxD es r d))/2 by omega]
 exact zAc hg hd
noncomputable def facL (es:List (Int × Int)) (r:Nat→Nat):List (List Int):=(leads (nxD es r) (2*es.length)).map fun d=>(orbL (nxD es r) d).map fun x=>((x/2:Nat):Int)
theorem zqC (hg:IsG n es) (hr:∀ v:Nat,(v:Int)<n→r v≤1∧r' v=1-r v):(facL es r).length=(facL es r').length:=by
 unfold facL
 rw [List.length_map,List.length_map]
 have a:=(zeK hg r).turned (zeK hg r') (rv:=rvD) (fun d hd=>zwb hd) (fun d _=>zAm) fun d hd=>zrP hg hr hd
 have b:=(zeK hg r').turned (zeK hg r) (rv:=rvD) (fun d hd=>zwb hd) (fun d _=>zAm) fun d hd=>zrP hg (fun v hv=>by have:=hr v hv;omega) hd
 omega
theorem zl1 (m e:Nat):((List.range (2*m)).map fun x=>((x/2:Nat):Int)).count (e:Int)=if e<m then 2 else 0:=by
 induction m with
 | zero=>simp
 | succ m ih=>
  rw [show 2*(m+1)=2*m+1+1 by omega,List.range_succ,List.range_succ,List.map_append,List.map_append,List.count_append,List.count_append,ih]
  simp only [List.map_cons,List.map_nil,List.count_cons,List.count_nil,beq_iff_eq]
  rw [show (2*m)/2=m by omega,show (2*m+1)/2=m by omega]
  by_cases h:e<m
  ·rw [if_pos h,if_neg (by omega),if_pos (by omega)]
  ·rw [if_neg h]
   by_cases h2:e=m
   ·subst h2;simp
   ·rw [if_neg (by omega),if_neg (by omega)]
theorem ztO (hg:IsG n es) (he:e<es.length):(facL es r).flatten.count (e:Int)=2:=by
 have h1:(facL es r).flatten=(allF (nxD es r) (2*es.length)).map fun x=>((x/2:Nat):Int):=by
  unfold facL allF
  rw [List.map_flatMap,List.flatMap_def]
 rw [h1,((zeK hg r).allF_perm.map _).count_eq,zl1,if_pos he]
end Go.Proofs
namespace Go.Proofs
open Go.Abs

variable {es:List (Int × Int)} {p q t:Nat→Bool} {n:Int} {w:Int}

def xAll (S:List (Nat→Bool)) (u:Nat):Bool:=S.foldr (fun f b=>f u ^^ b) false
theorem zvR (u:Nat):xAll [] u=false:=rfl
theorem zbC (f:Nat→Bool) (S:List (Nat→Bool)) (u:Nat):xAll (f::S) u=(f u ^^ xAll S u):=rfl
theorem zkF:∀ (S R:List (Nat→Bool)) (u:Nat),xAll (S++R) u=(xAll S u ^^ xAll R u)
 | [],R,u=>by simp [zvR]
 | f::S,R,u=>by rw [List.cons_append,zbC,zkF S R u,zbC,Bool.xor_assoc]
theorem znS {S:List (Nat→Bool)} {u:Nat}:(∀ f∈S,f u=false)→xAll S u=false:=by
 induction S with
 | nil=>intro _;rfl
 | cons f S ih=>intro h;rw [zbC,h f (by simp),ih fun g hg=>h g (by simp [hg])];rfl
theorem zpZ (f:Nat→Bool) (u:Nat):∀ (S:List (Nat→Bool)),∃ t:Bool,∀ w,xAll (S.map fun g=>if g u then (fun x=>g x ^^ f x) else g) w=(xAll S w ^^ (t&&f w))
 | []=>⟨false,fun w=>rfl⟩
 | g::S=>by
  obtain ⟨t,ht⟩:=zpZ f u S
  cases hg:g u with
  | true=>
   refine ⟨!t,fun w=>?_⟩
   rw [List.map_cons,zbC,ht w,zbC,if_pos hg]
   cases g w <;> cases f w <;> cases xAll S w <;> cases t <;> rfl
  | false=>
   refine ⟨t,fun w=>?_⟩
   rw [List.map_cons,zbC,ht w,zbC,if_neg (by rw [hg];simp),Bool.xor_assoc]
theorem dep:∀ (U:List Nat) (L:List (Nat→Bool)),U.length<L.length→∃ S,S.Sublist L∧S≠[]∧∀ u∈U,xAll S u=false
 | [],L,h=>⟨L,List.Sublist.refl L,by rintro rfl;simp at h,fun u hu=>absurd hu (by simp)⟩
 | u::U,L,h=>by
  by_cases hz:∀ f∈L,f u=false
  ·obtain ⟨S,h1,h2,h3⟩:=dep U L (by simp at h;omega)
   refine ⟨S,h1,h2,fun x hx=>?_⟩
   rcases List.mem_cons.1 hx with rfl|hx
   ·exact znS fun f hf=>hz f (h1.subset hf)
   ·exact h3 x hx
  ·obtain ⟨f,hf1,hf2⟩:∃ f,f∈L∧f u=true:=by
    apply Classical.byContradiction
    intro hn
    exact hz fun f hf=>by
     cases hfu:f u with
     | false=>rfl
     | true=>exact absurd ⟨f,hf,hfu⟩ hn
   obtain ⟨A,B,rfl⟩:=List.append_of_mem hf1
   have hlen:U.length<((A++B).map fun g:Nat→Bool=>if g u then (fun x=>g x ^^ f x) else g).length:=by
    simp at h ⊢;omega
   obtain ⟨S',h1,h2,h3⟩:=dep U _ hlen
   obtain ⟨S0,k1,rfl⟩:=List.sublist_map_iff.1 h1
   obtain ⟨SA,SB,rfl,kA,kB⟩:=List.sublist_append_iff.1 k1
   have hz:xAll ((SA++SB).map fun g:Nat→Bool=>if g u then (fun x=>g x ^^ f x) else g) u=false:=znS fun g hg=>by
    obtain ⟨g0,_,rfl⟩:=List.mem_map.1 hg
    cases hgu:g0 u with
    | true=>rw [if_pos rfl];simp [hgu,hf2]
    | false=>rw [if_neg (by simp),hgu]
   have hall:∀ x∈u::U,xAll ((SA++SB).map fun g:Nat→Bool=>if g u then (fun x=>g x ^^ f x) else g) x=false:=fun x hx=>by
    rcases List.mem_cons.1 hx with rfl|hx
    ·exact hz
    ·exact h3 x hx
   obtain ⟨b,hb⟩:=zpZ f u (SA++SB)
   cases b with
   | false=>
    refine ⟨SA++SB,kA.append (kB.trans (List.sublist_cons_self _ _)),by rintro he;rw [he] at h2;exact h2 rfl,fun x hx=>?_⟩
    have:=hall x hx
    rw [hb] at this
    simpa using this
   | true=>
    refine ⟨SA++f::SB,kA.append (kB.cons_cons _),by simp,fun x hx=>?_⟩
    have:=hall x hx
    rw [hb,zkF] at this
    rw [zkF,zbC]
    revert this
    cases xAll SA x <;> cases xAll SB x <;> cases f x <;> simp
theorem zfp (f:Nat→Bool) (k:Nat):((List.range k).filter f).length=cn f k:=by
 rw [← zce,filtB,List.length_map]
end Go.Proofs
namespace Go.Proofs
open Go.Abs

variable {es:List (Int × Int)} {n:Int} {r:Nat→Nat} {f:Nat→Nat} {N d e v:Nat}

theorem zxY {p q:Nat→Bool} {h:Nat→Nat} (hp:∀ x,x<N→p x=true→h x<N∧q (h x)=true) (hi:∀ x y,x<N→y<N→p x=true→p y=true→h x=h y→x=y):cn p N≤cn q N:=by
 rw [← zfp,← zfp]
 have hnd:(((List.range N).filter p).map h).Nodup:=by
  unfold List.Nodup
  rw [List.pairwise_map]
  refine List.Pairwise.imp_of_mem (R:=fun a b=>a≠b) (fun {a b} ha hb hab he=>?_) (List.nodup_range.filter _)
  rw [List.mem_filter,List.mem_range] at ha hb
  exact hab (hi a b ha.1 hb.1 ha.2 hb.2 he)
 have:=zbP hnd (m:=(List.range N).filter q) fun x hx=>by
  obtain ⟨a,ha,rfl⟩:=List.mem_map.1 hx
  rw [List.mem_filter,List.mem_range] at ha
  rw [List.mem_filter,List.mem_range]
  exact hp a ha.1 ha.2
 simpa using this
theorem zs8 (h:Nat→Bool):∀ m,cn h (2*m)=cn (fun e=>h (2*e)) m+cn (fun e=>h (2*e+1)) m
 | 0=>rfl
 | m+1=>by
  have:=zs8 h m
  simp only [show 2*(m+1)=2*m+1+1 by omega,cn,this]
  omega
theorem zxg (f:Nat→Bool):∀ k,cn f k+cn (fun j=>!f j) k=k
 | 0=>rfl
 | k+1=>by
  have:=zxg f k
  simp only [cn]
  by_cases h:f k=true
  ·rw [if_pos h,if_neg (by rw [h];simp)];omega
  ·rw [if_neg h,if_pos (by simpa using h)];omega
theorem PmF.pre (h:PmF f N) (hd:d<N):∃ x,x<N∧f x=d:=by
 obtain ⟨p,p1,p2⟩:=h.cyc hd
 refine ⟨itF f (p-1) d,h.it hd _,?_⟩
 have:itF f (p-1+1) d=d:=by rw [Nat.sub_add_cancel p1];exact p2
 exact this
def ClD (f:Nat→Nat) (N:Nat) (U:Nat→Bool):Prop:=∀ x,x<N→U (f x)=U x
def oneD (U:Nat→Bool) (e:Nat):Bool:=U (2*e) ^^ U (2*e+1)
theorem zyx (hg:IsG n es) (hd:d<2*es.length):on (es.getD (d/2) (0,0)) (v:Int)=(decide (hdD es d=v)||decide (tlD es d=v))∧hdD es d≠tlD es d:=by
 have h1:=zmn hg (e:=d/2) (v:=v) (by omega)
 have h2:=(zt3 hg (e:=d/2) (by omega)).1
 unfold hdD tlD
 constructor
 ·rw [Bool.eq_iff_iff,h1,Bool.or_eq_true,decide_eq_true_iff,decide_eq_true_iff]
  split
  ·exact ⟨fun h=>h.symm.imp Eq.symm Eq.symm,fun h=>h.symm.imp Eq.symm Eq.symm⟩
  ·exact ⟨fun h=>h.imp Eq.symm Eq.symm,fun h=>h.imp Eq.symm Eq.symm⟩
 ·split
  ·exact fun h=>h2 h.symm
  ·exact h2
theorem zwG (hg:IsG n es) {U:Nat→Bool} (hU:ClD (nxD es r) (2*es.length) U):EvenS n es (oneD U):=by
 intro v hv
 have hp:=zeK hg r
 have htl:∀ x,x<2*es.length→tlD es (nxD es r x)=hdD es x:=fun x hx=>by
  obtain ⟨i,_,_,_,_,_,h,_⟩:=zcZ hg r hx;exact h
 have e1:cn (fun x=>U x&&decide (hdD es x=v)) (2*es.length)≤cn (fun x=>U x&&decide (tlD es x=v)) (2*es.length):=by
  refine zxY (h:=nxD es r) (fun x hx hxp=>?_) fun x y hx hy _ _ he=>hp.inj x y hx hy he
  rw [Bool.and_eq_true,decide_eq_true_iff] at hxp
  refine ⟨hp.rng x hx,?_⟩
  rw [Bool.and_eq_true,decide_eq_true_iff,hU x hx,htl x hx];exact hxp
 have e2:cn (fun x=>U x&&decide (tlD es x=v)) (2*es.length)≤cn (fun x=>U x&&decide (hdD es x=v)) (2*es.length):=by
  obtain ⟨h,hh⟩:∃ h:Nat→Nat,∀ y,y<2*es.length→h y<2*es.length∧nxD es r (h y)=y:=by
   refine ⟨fun y=>@dite Nat (∃ x,x<2*es.length∧nxD es r x=y) (Classical.propDecidable _) (fun h=>Classical.choose h) fun _=>0,fun y hy=>?_⟩
   have hx:=hp.pre hy
   simp only [dif_pos hx]
   exact Classical.choose_spec hx
  refine zxY (h:=h) (fun x hx hxp=>?_) fun x y hx hy _ _ he=>by rw [← (hh x hx).2,← (hh y hy).2,he]
  obtain ⟨g1,g2⟩:=hh x hx
  rw [Bool.and_eq_true,decide_eq_true_iff] at hxp
  refine ⟨g1,?_⟩
  rw [Bool.and_eq_true,decide_eq_true_iff,← hU _ g1,← htl _ g1,g2];exact hxp
 have e3:cn (fun x=>U x&&on (es.getD (x/2) (0,0)) (v:Int)) (2*es.length)=cn (fun x=>U x&&decide (hdD es x=v)) (2*es.length)+cn (fun x=>U x&&decide (tlD es x=v)) (2*es.length):=by
  rw [← zpQ fun x hx h=>?_]
  ·refine za4 fun x hx=>?_
   rw [(zyx hg hx).1]
   cases U x <;> simp
  ·rw [Bool.and_eq_true,Bool.and_eq_true,decide_eq_true_iff,decide_eq_true_iff] at h
   exact (zyx hg (v:=v) hx).2 (h.1.2.trans h.2.2.symm)
 rw [zs8] at e3
 have e4:degB es (oneD U) v=cn (fun e=>(U (2*e)&&on (es.getD (2*e/2) (0,0)) (v:Int)) ^^ (U (2*e+1)&&on (es.getD ((2*e+1)/2) (0,0)) (v:Int))) es.length:=by
  rw [za6]
  refine za4 fun e he=>?_
  rw [show 2*e/2=e by omega,show (2*e+1)/2=e by omega]
  unfold oneD
  cases on (es.getD e (0,0)) (v:Int) <;> cases U (2*e) <;> cases U (2*e+1) <;> rfl
 rw [e4,zuT]
 omega
theorem zAN (hg:IsG n es) {U:Nat→Bool} (hU:ClD (nxD es r) (2*es.length) U) (hrv:∀ x,x<2*es.length→U (rvD x)=U x) (hr:∀ v:Nat,(v:Int)<n→r v≤1) (hc:∀ v:Nat,(v:Int)<n→Rch (pAdj es fun _=>true) 0 v)
 {x0:Nat} (h0:x0<2*es.length) (hx0:U x0=true):∀ x,x<2*es.length→U x=true:=by
 have A:∀ x y,x<2*es.length→y<2*es.length→U x=true→hdD es x=hdD es y→U y=true:=by
  intro x y hx hy hUx hh
  have st:∀ x,x<2*es.length→rvD (nxD es r x)<2*es.length∧hdD es (rvD (nxD es r x))=hdD es x∧U (rvD (nxD es r x))=U x:=fun x hx=>by
   obtain ⟨i,_,_,_,_,i5,i6,_⟩:=zcZ hg r hx
   exact ⟨zwb i5,by rw [zz0,i6],by rw [hrv _ i5,hU x hx]⟩
  obtain ⟨i,i3,_,i2,i4,i5,i6,_⟩:=zcZ hg r hx
  obtain ⟨s1,s2,s3⟩:=st x hx
  obtain ⟨j,j3,_,j2,j4,j5,j6,_⟩:=zcZ hg r s1
  obtain ⟨t1,t2,t3⟩:=st _ s1
  obtain ⟨m,m3,_,m2,_,_,_,_⟩:=zcZ hg r hy
  have hv:=zmU hg hx
  have hr':=hr _ hv
  rw [s2] at j2 j4
  rw [← hh] at m2
  rw [ziR] at j2
  have q1:=zpR hg hv j3 (Nat.mod_lt _ (by omega)) (j2.trans i4.symm)
  by_cases c1:m=i
  ·subst c1
   have:x=y:=zlh hg hx hy (by omega) hh
   rw [← this];exact hUx
  ·by_cases c2:m=j
   ·subst c2
    have:rvD (nxD es r x)=y:=zlh hg s1 hy (by rw [ziR];omega) (by rw [s2,hh])
    rw [← this,s3];exact hUx
   ·have c3:m=(j+1+r (hdD es x))%3:=by
     have hr2:r (hdD es x)=0∨r (hdD es x)=1:=by omega
     rcases hr2 with e|e <;> rw [e] at q1 ⊢ <;> omega
    subst c3
    have:rvD (nxD es r (rvD (nxD es r x)))=y:=zlh hg t1 hy (by rw [ziR];omega) (by rw [t2,s2,hh])
    rw [← this,t3,s3];exact hUx
 have Bv:∀ v w:Nat,pAdj es (fun _=>true) v w→(∀ x,x<2*es.length→hdD es x=v→U x=true)→∀ x,x<2*es.length→hdD es x=w→U x=true:=by
  rintro v w ⟨j,j1,_,j2⟩ hv x hx hxw
  have hab:eaN es j=v∧ebN es j=w∨eaN es j=w∧ebN es j=v:=by
   unfold eaN ebN
   rcases j2 with h|h <;> rw [h] <;> simp
  have ha:hdD es (2*j)=ebN es j:=by unfold hdD;rw [if_pos (by omega)];congr 1;omega
  have hb:hdD es (2*j+1)=eaN es j:=by unfold hdD;rw [if_neg (by omega)];congr 1;omega
  have r1:rvD (2*j)=2*j+1:=by unfold rvD;rw [if_pos (by omega)]
  have h2:=hrv (2*j) (by omega)
  rw [r1] at h2
  rcases hab with ⟨a1,a2⟩|⟨a1,a2⟩
  ·have:=hv (2*j+1) (by omega) (by rw [hb,a1])
   exact A (2*j) x (by omega) hx (by rw [← h2];exact this) (by rw [ha,a2,hxw])
  ·have:=hv (2*j) (by omega) (by rw [ha,a2])
   exact A (2*j+1) x (by omega) hx (by rw [h2];exact this) (by rw [hb,a1,hxw])
 have hsym:∀ {a b},Rch (pAdj es fun _=>true) a b→Rch (pAdj es fun _=>true) b a:=fun {a b} h=>by
  induction h with
  | refl=>exact .refl
  | step _ h2 ih=>exact Rch.trans (.step .refl (zmS _ _ h2)) ih
 intro x hx
 have hrch:=(hsym (hc _ (zmU hg h0))).trans (hc _ (zmU hg hx))
 exact hrch.keep (P:=fun v=>∀ x,x<2*es.length→hdD es x=v→U x=true) (fun a b hab ha=>Bv a b hab ha) (fun y hy hyv=>A x0 y h0 hy hx0 hyv.symm) x hx rfl
theorem zrQ (hg:IsG n es) (hc:∀ v:Nat,(v:Int)<n→Rch (pAdj es fun _=>true) 0 v):∀ k,k<n.toNat→∃ t S:List Nat,t.Nodup∧t.length=k∧S.Nodup∧S.length=k+1∧0∈S∧(∀ s∈S,s<n.toNat)∧(∀ e∈t,e<es.length∧eaN es e∈S∧ebN es e∈S)∧
 ∀ P:Nat→Bool,EvenS n es P→(∀ e,e<es.length→P e=true→e∈t)→∀ e,e<es.length→P e=false
 | 0,h=>⟨[],[0],List.nodup_nil,rfl,by simp,rfl,by simp,by simpa using h,by simp,fun P _ h1 e he=>by
  cases hp:P e with
  | false=>rfl
  | true=>exact absurd (h1 e he hp) (by simp)⟩
 | k+1,h=>by
  obtain ⟨t,S,h1,h2,h3,h4,h5,h6,h7,h8⟩:=zrQ hg hc k (by omega)
  obtain ⟨y,hy,hyS⟩:∃ y,y<n.toNat∧y∉S:=by
   apply Classical.byContradiction
   intro hx
   have:=zbP (List.nodup_range (n:=n.toNat)) (m:=S) fun x hx'=>by
    apply Classical.byContradiction
    intro hn
    exact hx ⟨x,List.mem_range.1 hx',hn⟩
   rw [List.length_range] at this;omega
  obtain ⟨a,b,ha,hb,hab⟩:∃ a b,a∈S∧b∉S∧pAdj es (fun _=>true) a b:=by
   apply Classical.byContradiction
   intro hx
   refine hyS ((hc y (by omega)).keep (P:=fun x=>x∈S) (fun a b hab ha=>?_) h5)
   apply Classical.byContradiction
   intro hn
   exact hx ⟨a,b,ha,hn,hab⟩
  obtain ⟨j,j1,_,j2⟩:=hab
  have hends:eaN es j=a∧ebN es j=b∨eaN es j=b∧ebN es j=a:=by
   unfold eaN ebN
   rcases j2 with h|h <;> rw [h] <;> simp
  have hbn:=zt3 hg j1
  have hjt:j∉t:=fun hj=>by
   obtain ⟨_,g1,g2⟩:=h7 j hj
   rcases hends with ⟨_,q⟩|⟨q,_⟩
   ·rw [q] at g2;exact hb g2
   ·rw [q] at g1;exact hb g1
  refine ⟨j::t,b::S,List.nodup_cons.2 ⟨hjt,h1⟩,by simp [h2],List.nodup_cons.2 ⟨hb,h3⟩,by simp [h4],by simp [h5],fun s hs=>?_,fun e he=>?_,fun P hP hPt e he=>?_⟩
  ·rcases List.mem_cons.1 hs with rfl|hs
   ·rcases hends with ⟨_,q⟩|⟨q,_⟩ <;> omega
   ·exact h6 s hs
  ·rcases List.mem_cons.1 he with rfl|he
   ·refine ⟨j1,?_⟩
    rcases hends with ⟨q1,q2⟩|⟨q1,q2⟩ <;> rw [q1,q2] <;> simp [ha]
   ·obtain ⟨g1,g2,g3⟩:=h7 e he
    exact ⟨g1,by simp [g2],by simp [g3]⟩
  ·have hPj:P j=false:=by
    cases hpj:P j with
    | false=>rfl
    | true=>
     exfalso
     have hev:=hP b (by rcases hends with ⟨_,q⟩|⟨q,_⟩ <;> omega)
     obtain ⟨q1,q2,q3,q4,q5⟩:=zdj hg.endsIn j1
     have h9:=zfZ j1 q1 q2 b
     have h10:degB es P b=degB es (fun i=>decide (i=j)) b:=by
      rw [za6,za6]
      refine za4 fun i hi=>?_
      by_cases hij:i=j
      ·subst hij;rw [hpj];simp
      ·rw [decide_eq_false hij,Bool.and_false]
       cases ho:on (es.getD i (0,0)) (b:Int) with
       | false=>rfl
       | true=>
        cases hpi:P i with
        | false=>rfl
        | true=>
         exfalso
         rcases List.mem_cons.1 (hPt i hi hpi) with e'|hit
         ·exact hij e'
         ·obtain ⟨_,g2,g3⟩:=h7 i hit
          rcases (zmn hg hi).1 ho with e'|e'
          ·rw [← e'] at g2;exact hb g2
          ·rw [← e'] at g3;exact hb g3
     rw [h10,h9] at hev
     rcases hends with ⟨q6,q7⟩|⟨q6,q7⟩
     ·rw [if_neg (by omega),if_pos (by omega)] at hev;omega
     ·rw [if_pos (by omega),if_neg (by omega)] at hev;omega
   refine h8 P hP (fun i hi hpi=>?_) e he
   rcases List.mem_cons.1 (hPt i hi hpi) with e'|hit
   ·rw [e',hPj] at hpi;cases hpi
   ·exact hit
noncomputable def orbB (f:Nat→Nat) (d x:Nat):Bool:=@decide (Orb f d x) (Classical.propDecidable _)
theorem zkH {x:Nat}:orbB f d x=true↔Orb f d x:=by
 unfold orbB;exact @decide_eq_true_iff _ (Classical.propDecidable _)
noncomputable def uniO (f:Nat→Nat) (T:List Nat) (x:Nat):Bool:=T.any fun d=>orbB f d x
theorem zf8 {T:List Nat} {x:Nat}:uniO f T x=true↔∃ d∈T,Orb f d x:=by
 unfold uniO
 rw [List.any_eq_true]
 exact ⟨fun ⟨d,h1,h2⟩=>⟨d,h1,zkH.1 h2⟩,fun ⟨d,h1,h2⟩=>⟨d,h1,zkH.2 h2⟩⟩
theorem zk9 (h:PmF f N):∀ {T:List Nat},T.Nodup→(∀ d∈T,d∈leads f N)→∀ x,xAll (T.map fun d x=>orbB f d x) x=uniO f T x
 | [],_,_,x=>rfl
 | a::T,hn,hT,x=>by
  rw [List.nodup_cons] at hn
  rw [List.map_cons,zbC,zk9 h hn.2 (fun d hd=>hT d (by simp [hd])) x]
  unfold uniO
  rw [List.any_cons]
  cases ha:orbB f a x with
  | false=>simp
  | true=>
   have:uniO f T x=false:=by
    cases hu:uniO f T x with
    | false=>rfl
    | true=>
     obtain ⟨d,h1,h2⟩:=zf8.1 hu
     have ha':=hT a (by simp)
     have hd':=hT d (by simp [h1])
     have:=h.lead_eq ha' hd' ((zkH.1 ha).trans (h.symm (za7.1 hd').1 h2))
     subst this
     exact absurd h1 hn.1
   unfold uniO at this
   rw [this];rfl
theorem zmh (g:Nat→Nat→Bool) (e:Nat):∀ T:List Nat,xAll (T.map fun d e=>g d (2*e) ^^ g d (2*e+1)) e=(xAll (T.map fun d x=>g d x) (2*e) ^^ xAll (T.map fun d x=>g d x) (2*e+1))
 | []=>rfl
 | a::T=>by
  rw [List.map_cons,List.map_cons,zbC,zbC,zbC,zmh g e T]
  cases g a (2*e) <;> cases g a (2*e+1) <;> simp
theorem euler (hg:IsG n es) (hr:∀ v:Nat,(v:Int)<n→r v≤1) (hc:∀ v:Nat,(v:Int)<n→Rch (pAdj es fun _=>true) 0 v):(facL es r).length+n.toNat≤es.length+2:=by
 have n0:=hg.ed.lo
 have hp:=zeK hg r
 unfold facL
 rw [List.length_map]
 apply Classical.byContradiction
 intro hlt
 obtain ⟨t,S,h1,h2,_,_,_,_,h7,h8⟩:=zrQ hg hc (n.toNat-1) (by omega)
 obtain ⟨Q,hQ⟩:∃ Q,Q=(List.range es.length).filter fun e=>decide (e∉t):=⟨_,rfl⟩
 have hQl:Q.length+(n.toNat-1)≤es.length:=by
  have a:=zbP h1 (m:=(List.range es.length).filter fun e=>decide (e∈t)) fun x hx=>by
   rw [List.mem_filter,List.mem_range]
   exact ⟨(h7 x hx).1,decide_eq_true hx⟩
  have b:((List.range es.length).filter fun e=>decide (e∈t)).length+Q.length=es.length:=by
   rw [hQ,zfp,zfp]
   have:=zxg (fun e=>decide (e∈t)) es.length
   have e2:cn (fun e=>decide (e∉t)) es.length=cn (fun j=>!(decide (j∈t))) es.length:=za4 fun j _=>by simp
   omega
  omega
 match hL:leads (nxD es r) (2*es.length),hlt with
 | [],hlt=>
  simp only [List.length_nil] at hlt
  have h3:=hg.ed.len
  omega
 | d0::rest,hlt=>
  simp only [List.length_cons] at hlt
  obtain ⟨S',s1,s2,s3⟩:=dep Q (rest.map fun d e=>orbB (nxD es r) d (2*e) ^^ orbB (nxD es r) d (2*e+1)) (by rw [List.length_map];omega)
  obtain ⟨T,t1,rfl⟩:=List.sublist_map_iff.1 s1
  have hnd:(d0::rest).Nodup:=by rw [← hL];exact zf7
  rw [List.nodup_cons] at hnd
  have hTn:T.Nodup:=t1.nodup hnd.2
  have hTl:∀ d∈T,d∈leads (nxD es r) (2*es.length):=fun d hd=>by rw [hL];exact List.mem_cons_of_mem _ (t1.subset hd)
  have hW:∀ e,xAll (T.map fun d e=>orbB (nxD es r) d (2*e) ^^ orbB (nxD es r) d (2*e+1)) e=oneD (uniO (nxD es r) T) e:=fun e=>by
   rw [zmh (fun d x=>orbB (nxD es r) d x),zk9 hp hTn hTl,zk9 hp hTn hTl];rfl
  have hU:ClD (nxD es r) (2*es.length) (uniO (nxD es r) T):=fun x hx=>by
   rw [Bool.eq_iff_iff,zf8,zf8]
   exact ⟨fun ⟨d,g1,g2⟩=>⟨d,g1,hp.back (za7.1 (hTl d g1)).1 hx g2⟩,fun ⟨d,g1,g2⟩=>⟨d,g1,g2.next⟩⟩
  have hz:=h8 _ (zwG hg hU) fun e he h9=>by
   apply Classical.byContradiction
   intro hn
   have:=s3 e (by rw [hQ,List.mem_filter,List.mem_range];exact ⟨he,decide_eq_true hn⟩)
   rw [hW,h9] at this;cases this
  have hrv:∀ x,x<2*es.length→uniO (nxD es r) T (rvD x)=uniO (nxD es r) T x:=fun x hx=>by
   have:=hz (x/2) (by omega)
   unfold oneD at this
   unfold rvD
   by_cases hx2:x%2=0
   ·rw [show 2*(x/2)=x by omega] at this
    rw [if_pos hx2]
    cases h1:uniO (nxD es r) T x <;> cases h2:uniO (nxD es r) T (x+1) <;> simp [h1,h2] at this <;> rfl
   ·rw [show 2*(x/2)+1=x by omega,show 2*(x/2)=x-1 by omega] at this
    rw [if_neg hx2]
    cases h1:uniO (nxD es r) T x <;> cases h2:uniO (nxD es r) T (x-1) <;> simp [h1,h2] at this <;> rfl
  have hT:T≠[]:=fun h=>s2 (by rw [h];rfl)
  obtain ⟨d,hd⟩:=List.exists_mem_of_ne_nil T hT
  have hdl:=za7.1 (hTl d hd)
  have hall:=zAN hg hU hrv hr hc hdl.1 (zf8.2 ⟨d,hd,.refl⟩)
  have hd0:d0∈leads (nxD es r) (2*es.length):=by rw [hL];simp
  obtain ⟨d',g1,g2⟩:=zf8.1 (hall d0 (za7.1 hd0).1)
  have:=hp.lead_eq (hTl d' g1) hd0 g2
  subst this
  exact hnd.1 (t1.subset g1)
end Go.Proofs
namespace Go.Proofs
open Go.Abs

variable {es:List (Int × Int)} {n:Int} {r:Nat→Nat} {R:List Int} {s N k:Nat}

def RotP (n:Int) (R:List Int):Prop:=(R.length:Int)=n∧∀ x∈R,0≤x∧x≤1
noncomputable instance (n:Int) (R:List Int):Decidable (RotP n R):=Classical.propDecidable _
def rF (R:List Int) (v:Nat):Nat:=(R.getD v 0).toNat
theorem RotP.get (h:RotP n R) {v:Nat} (hv:(v:Int)<n):0≤R.getD v 0∧R.getD v 0≤1∧R.getD v 0=(rF R v:Int)∧rF R v≤1:=by
 have hl:v<R.length:=by have:=h.1;omega
 have:=h.2 (R.getD v 0) (by rw [zae hl];exact List.getElem_mem _)
 unfold rF;omega
theorem zyZ (h:(sidesL es n.toNat).length=1) (n0:0<n):∀ v:Nat,(v:Int)<n→Rch (pAdj es fun _=>true) 0 v:=by
 intro v hv
 obtain ⟨i,hi,h1⟩:=zfh (fs:=es) (n:=n.toNat) (v:=0) (by omega)
 obtain ⟨j,hj,h2⟩:=zfh (fs:=es) (n:=n.toNat) (v:=v) (by omega)
 obtain rfl:i=j:=by omega
 have hr:=(zif (x:=0) hi h1 (y:=v) (by omega)).1 h2
 have hs:∀ {a b},Rch (vAdj es) a b→Rch (pAdj es fun _=>true) a b:=fun {a b} h=>by
  induction h with
  | refl=>exact .refl
  | step _ h2 ih=>
   refine .step ih ?_
   rcases h2 with h2|h2
   ·obtain ⟨j,hj,he⟩:=List.getElem_of_mem h2
    exact ⟨j,hj,rfl,.inl (by rw [zae hj];exact he)⟩
   ·obtain ⟨j,hj,he⟩:=List.getElem_of_mem h2
    exact ⟨j,hj,rfl,.inr (by rw [zae hj];exact he)⟩
 exact hs hr
noncomputable def gnI (n:Int) (es:List (Int × Int)) (r:Nat→Nat):Int:=Int.tdiv (2-n+(es.length:Int)-((facL es r).length:Int)) 2
theorem znr:(facL es r).length≤2*es.length:=by
 unfold facL leads
 rw [List.length_map]
 exact Nat.le_trans (List.length_filter_le _ _) (by simp)
theorem zt0 (hg:IsG n es) (hr:∀ v:Nat,(v:Int)<n→r v≤1) (hc:(sidesL es n.toNat).length=1):0≤gnI n es r:=by
 have h0:=hg.ed.lo
 have:=euler hg hr (zyZ hc (by omega))
 unfold gnI
 exact Int.tdiv_nonneg (by omega) (by decide)
def bitR (N s:Nat):List Int:=(List.range N).map fun v=>if s.testBit v then 1 else 0
theorem zwU {v:Nat} (hv:v<N):(bitR N s).getD v 0=if s.testBit v then 1 else 0:=by
 unfold bitR
 rw [zae (by simpa using hv)];simp
theorem zpp (hn:(N:Int)=n):RotP n (bitR N s):=⟨by simp [bitR,hn],fun x hx=>by
 unfold bitR at hx
 obtain ⟨v,_,rfl⟩:=List.mem_map.1 hx
 split <;> omega⟩
theorem zsm {v:Nat} (hv:v<N):rF (bitR N s) v=if s.testBit v then 1 else 0:=by
 unfold rF
 rw [zwU hv];split <;> rfl
theorem ztw (hg:IsG n es) (hs:s<2^n.toNat):gnI n es (rF (bitR n.toNat (2^n.toNat-(s+1))))=gnI n es (rF (bitR n.toNat s)):=by
 unfold gnI
 rw [zqC hg (r:=rF (bitR n.toNat (2^n.toNat-(s+1)))) (r':=rF (bitR n.toNat s)) fun v hv=>?_]
 have hv':v<n.toNat:=by omega
 rw [zsm hv',zsm hv',Nat.testBit_two_pow_sub_succ hs]
 cases s.testBit v <;> simp [hv']
noncomputable def lgTo (n:Int) (es:List (Int × Int)):Nat→Int
 | 0=>n
 | k+1=>if gnI n es (rF (bitR n.toNat k))<lgTo n es k then gnI n es (rF (bitR n.toNat k)) else lgTo n es k
theorem znW {k:Nat}:lgTo n es k≤n∧∀ s,s<k→lgTo n es k≤gnI n es (rF (bitR n.toNat s)):=by
 induction k with
 | zero=>exact ⟨Int.le_refl _,fun s h=>absurd h (by omega)⟩
 | succ k ih=>
  obtain ⟨h1,h2⟩:=ih
  rw [lgTo]
  split
  ·next hlt=>
   refine ⟨by omega,fun s hs=>?_⟩
   by_cases e:s=k
   ·subst e;omega
   ·have:=h2 s (by omega);omega
  ·next hge=>
   refine ⟨h1,fun s hs=>?_⟩
   by_cases e:s=k
   ·subst e;omega
   ·exact h2 s (by omega)
theorem zo4 {k:Nat}:lgTo n es k=n∨∃ s,s<k∧lgTo n es k=gnI n es (rF (bitR n.toNat s)):=by
 induction k with
 | zero=>exact .inl rfl
 | succ k ih=>
  rw [lgTo]
  split
  ·exact .inr ⟨k,by omega,rfl⟩
  ·rcases ih with h|⟨s,h1,h2⟩
   ·exact .inl h
   ·exact .inr ⟨s,by omega,h2⟩
theorem zsp (hg:IsG n es):lgTo n es (2^n.toNat)=lgTo n es (2^(n.toNat-1)):=by
 have h0:=hg.ed.lo
 have hp:2^n.toNat=2*2^(n.toNat-1):=by
  conv=>lhs;rw [show n.toNat=(n.toNat-1)+1 by omega,Nat.pow_succ]
  omega
 have a:=znW (n:=n) (es:=es) (k:=2^n.toNat)
 have b:=znW (n:=n) (es:=es) (k:=2^(n.toNat-1))
 apply Int.le_antisymm
 ·rcases zo4 (n:=n) (es:=es) (k:=2^(n.toNat-1)) with h|⟨s,h1,h2⟩
  ·rw [h];exact a.1
  ·rw [h2];exact a.2 s (by omega)
 ·rcases zo4 (n:=n) (es:=es) (k:=2^n.toNat) with h|⟨s,h1,h2⟩
  ·rw [h];exact b.1
  ·rw [h2]
   by_cases hs:s<2^(n.toNat-1)
   ·exact b.2 s hs
   ·have:=b.2 (2^n.toNat-(s+1)) (by omega)
    rwa [ztw hg h1] at this
theorem zn7 (hg:IsG n es) (hc:(sidesL es n.toNat).length=1) (k:Nat):0≤lgTo n es k:=by
 have h0:=hg.ed.lo
 rcases zo4 (n:=n) (es:=es) (k:=k) with h|⟨s,h1,h2⟩
 ·rw [h];omega
 ·rw [h2]
  refine zt0 hg (fun v hv=>?_) hc
  rw [zsm (by omega)];split <;> omega
end Go.Proofs
namespace Go.Proofs
open Go.Abs

variable {H G:AHeap} {v u f w:Value} {l m R:List Int} {es fs:List (Int × Int)} {K:Value→AHeap→Prop} {n:Int}

theorem zi4 {f:Nat→Nat} {N d i:Nat} (h:PmF f N) (hd:d<N) (hi:∀ a b,a<b→b<i→itF f a d≠itF f b d):i≤N:=by
 have hn:((List.range i).map fun k=>itF f k d).Nodup:=by
  unfold List.Nodup
  rw [List.pairwise_iff_getElem]
  intro a b ha hb hab
  rw [List.getElem_map,List.getElem_map,List.getElem_range,List.getElem_range]
  rw [List.length_map,List.length_range] at hb
  exact hi a b hab hb
 have:=zbP hn (m:=List.range N) fun x hx=>by
  obtain ⟨k,_,rfl⟩:=List.mem_map.1 hx
  exact List.mem_range.2 (h.it hd k)
 simpa using this
theorem zro {v' e:Nat} (h:Edges H v es) (hg:IsG n es) (hu:Ints H u R) (hR:RotP n R) (hv:(v':Int)<n) (he:e<es.length) (ho:on (es.getD e (0,0)) (v':Int)=true)
 (k:∀ G,H.le G→K (.int .i64 ((atL es (v':Int)).getD ((ps3 (atL es (v':Int)) (e:Int)+1+rF R v')%3) 0)) G) :
 AC Tryz.prog T0 154 [.agg ⟨[.int .i64 n,v]⟩,u,.int .i64 (e:Int),.int .i64 (v':Int)] H K:=by
 have h30:es.length≤30:=by have:=hg.ed.len;have:=hg.ed.hi;omega
 obtain ⟨r0,r1,r2,r3⟩:=hR.get hv
 obtain ⟨a,b,c,h1,h2,h3,h4,h5⟩:=at3 hg hv
 have hx:=h5 e he ho
 apply F154.ac
 unfold F154.B9
 refine zaf (zak (zah h)) fun H1 l1 n1 o1=>?_
 unfold F154.B8
 refine zac o1 rfl (zab o1 rfl (zcO (h.le l1) (by omega) fun x9 G l2 f2=>?_))
 have l12:=AHeap.le_trans l1 l2
 have hl3:(atL es (v':Int)).length=3:=by rw [h1];rfl
 unfold F154.B7 F154.L2
 refine ⟨fun x1 x2 x3 y9 x10 G'=>u=x1∧(e:Int)=x2∧(v':Int)=x3∧x9=y9∧G=G'∧∃ i:Nat,x10=i∧i≤3∧∀ j,j<i→(atL es (v':Int)).getD j 0≠(e:Int),fun _ _ _ _ x10 _=>3-x10.toNat,⟨rfl,rfl,rfl,rfl,rfl,0,rfl,by omega,fun j hj=>absurd hj (by omega)⟩,?_⟩
 rintro x1 x2 x3 y9 x10 G' ⟨rfl,rfl,rfl,rfl,rfl,i,rfl,hi,hno⟩
 unfold F154.B6
 refine zaa (fun hb=>?_) fun hb=>?_
 ·have hlt:i<3:=by have:=of_decide_eq_true hb;omega
  unfold F154.B5
  refine f2.ints.rd (by omega) (by omega) (zaa (fun hc=>?_) fun hc=>?_)
  ·rw [Int.toNat_natCast] at hc
   have he':=beq_iff_eq.1 hc
   have hps:ps3 (atL es (v':Int)) (e:Int)=i:=by
    have hi':i=0∨i=1∨i=2:=by omega
    unfold ps3
    rcases hi' with rfl|rfl|rfl
    ·rw [if_pos he']
    ·rw [if_neg (hno 0 (by omega)),if_pos he']
    ·rw [if_neg (hno 0 (by omega)),if_neg (hno 1 (by omega))]
   unfold F154.B4
   refine (hu.le l12).rd (by omega) (by have:=hR.1;omega) ?_
   rw [Int.toNat_natCast,r2,show IntKind.i64.wrap ((i:Int)+1)=(i:Int)+1 from zad (by omega) (by omega),zad (by omega) (by omega),show Int.tmod ((i:Int)+1+(rF R v':Int)) 3=(((i+1+rF R v')%3:Nat):Int) by rw [Int.tmod_eq_emod_of_nonneg (by omega)];omega]
   refine f2.ints.rd (by omega) (by have:=Nat.mod_lt (i+1+rF R v') (show 3>0 by omega);omega) ?_
   rw [Int.toNat_natCast,← hps]
   exact k G l12
  ·rw [Int.toNat_natCast] at hc
   unfold F154.B3
   rw [zad (by omega) (by omega)]
   refine ⟨⟨rfl,rfl,rfl,rfl,rfl,i+1,by omega,by omega,fun j hj=>?_⟩,by simp;omega⟩
   by_cases e':j=i
   ·subst e';exact beq_eq_false_iff_ne.1 hc
   ·exact hno j (by omega)
 ·exfalso
  have hi3:i=3:=by have:=of_decide_eq_false hb;omega
  subst hi3
  rw [h1] at hno
  rcases hx with rfl|rfl|rfl
  ·exact hno 0 (by omega) (by simp)
  ·exact hno 1 (by omega) (by simp)
  ·exact hno 2 (by omega) (by simp)
noncomputable def facTo (es:List (Int × Int)) (r:Nat→Nat) (t:Nat):List (List Int):=(leads (nxD es r) t).map fun d=>(orbL (nxD es r) d).map fun x=>((x/2:Nat):Int)
theorem zm7 {r:Nat→Nat}:facTo es r (2*es.length)=facL es r:=rfl
theorem zhF {r:Nat→Nat} {t:Nat}:(facTo es r t).length≤t:=by
 unfold facTo leads
 rw [List.length_map]
 exact Nat.le_trans (List.length_filter_le _ _) (by simp)
theorem zpy {r:Nat→Nat} {t:Nat} (h:¬ LdF (nxD es r) t):facTo es r (t+1)=facTo es r t:=by
 unfold facTo
 rw [zkm,if_neg (by rw [zjd];exact h),List.append_nil]
theorem zmb {r:Nat→Nat} {t i:Nat} (h:LdF (nxD es r) t) (hp:IsPer (nxD es r) t i):facTo es r (t+1)=facTo es r t++[(List.range i).map fun k=>((itF (nxD es r) k t/2:Nat):Int)]:=by
 unfold facTo
 rw [zkm,if_pos (zjd.2 h),List.map_append]
 congr 1
 simp only [List.map_cons,List.map_nil,List.cons.injEq,and_true]
 unfold orbL
 rw [hp.eq,List.map_map]
 rfl
theorem zsK {f:Nat→Nat} {N t i x:Nat} (h:PmF f N) (ht:t<N) (hp:IsPer f t i):(∃ j,j<i∧itF f j t=x)↔Orb f t x:=by
 rw [← h.mem_orbL ht]
 unfold orbL
 rw [hp.eq,List.mem_map]
 exact ⟨fun ⟨j,h1,h2⟩=>⟨j,List.mem_range.2 h1,h2⟩,fun ⟨j,h1,h2⟩=>⟨j,List.mem_range.1 h1,h2⟩⟩
theorem zfO (h:Edges H v es) (hg:IsG n es) (hu:Ints H u R) (hR:RotP n R) (k:∀ v' G,H.le G→RowsF (fun b=>H.length≤b) G.length G v' (facL es (rF R))→K v' G) :
 AC Tryz.prog T0 99 [.agg ⟨[.int .i64 n,v]⟩,u] H K:=by
 have h30:es.length≤30:=by have:=hg.ed.len;have:=hg.ed.hi;omega
 have n1':=hg.ed.hi
 obtain ⟨f,hf⟩:∃ f,f=nxD es (rF R):=⟨_,rfl⟩
 have hp:PmF f (2*es.length):=by rw [hf];exact zeK hg _
 apply F99.ac
 unfold F99.B21
 refine zaf (zak (zah h)) fun H1 l1 n1 o1=>?_
 unfold F99.B20
 refine zab o1 rfl ((h.le l1).len ?_)
 rw [show IntKind.i64.wrap (2*((es.length:Nat):Int))=((2*es.length:Nat):Int) by rw [zad (by omega) (by omega)];omega]
 refine zaF (by omega) (by omega) (by decide) fun H2 l2 n2 o2=>zaf rfl fun H3 l3 n3 o3=>?_
 rw [Int.toNat_natCast,zfU] at o2
 rw [Int.toNat_natCast]
 have o2:=o2.le l3
 obtain ⟨bm,hbm⟩:∃ bm,bm=H1.length:=⟨_,rfl⟩
 rw [← hbm] at o2 ⊢
 obtain ⟨A,hA⟩:∃ A:Nat→Prop,A=fun b=>H2.length≤b:=⟨_,rfl⟩
 have hAb:∀ b,H2.length≤b→A b:=fun b hb=>by rw [hA];exact hb
 unfold F99.B19 F99.L2
 refine ⟨fun x1 x2 x5 x6 x7 G=>u=x1∧H.length=x2∧.slice (some ⟨bm,0,none⟩) (2*es.length) (2*es.length+1)=x5∧H1.le G∧H2.length≤G.length∧∃ (t:Nat) (M:List Bool),x7=t∧t≤2*es.length∧M.length=2*es.length∧Own G bm 4 (LB M)∧RowsF A G.length G x6 (facTo es (rF R) t)∧∀ x,x<2*es.length→(M.getD x false=true↔MtF f t x),
  fun _ _ _ _ x7 _=>2*es.length-x7.toNat,⟨rfl,rfl,rfl,AHeap.le_trans l2 l3,l3.1,0,_,rfl,by omega,by simp,o2,.nil1 o3 (hAb _ (Nat.le_refl _)) o3.lt,fun x hx=>?_⟩,?_⟩
 ·have:(List.replicate (2*es.length) false).getD x false=false:=by simp [List.getD,hx]
  rw [this]
  exact ⟨fun h=>absurd h (by simp),fun ⟨e,h1,_⟩=>absurd h1 (by omega)⟩
 clear o2 o3
 rintro x1 x2 x5 x6 x7 G1 ⟨rfl,rfl,rfl,lG1,hG1,t,M,rfl,ht,hM,oM,hRw,hm⟩
 have l0G1:=AHeap.le_trans l1 lG1
 unfold F99.B18
 refine zba (zaa (fun hb=>?_) fun hb=>?_)
 rotate_left
 ·have hte:t=2*es.length:=by have:=of_decide_eq_false hb;omega
  subst hte
  rw [zm7] at hRw
  unfold F99.B1
  exact k _ _ l0G1 (hRw.mono (fun b hb=>by rw [hA] at hb;omega) (Nat.le_refl _))
 have htl:t<2*es.length:=by have:=of_decide_eq_true hb;omega
 have hfl:=zhF (es:=es) (r:=rF R) (t:=t)
 unfold F99.B17
 refine zan (by omega) (by omega) (zab oM (by rw [Int.toNat_natCast];exact zdv (by omega)) (zai (zaa (fun hs=>?_) fun hs=>?_)))
 ·have hld:¬ LdF f t:=fun hl=>MtF.lead.1 hl ((hm t htl).1 hs)
  unfold F99.B3
  rw [zad (by omega) (by omega)]
  refine ⟨⟨rfl,rfl,rfl,lG1,hG1,t+1,M,by omega,by omega,hM,oM,?_,fun x hx=>?_⟩,by simp;omega⟩
  ·rw [zpy (by rw [← hf];exact hld)];exact hRw
  ·rw [hm x hx,hp.mt_lead htl hld]
 have hld:LdF f t:=MtF.lead.2 fun hh=>by
  rw [(hm t htl).2 hh] at hs;cases hs
 unfold F99.B16
 refine zaf rfl fun H4 l4 n4 o4=>?_
 have hbmG:=oM.lt
 unfold F99.B15 F99.L5
 refine ⟨fun x1 x2 x5 y6 x7 x8 x9 G=>u=x1∧H.length=x2∧.slice (some ⟨bm,0,none⟩) (2*es.length) (2*es.length+1)=x5∧x6=y6∧(t:Int)=x7∧H1.le G∧G1.length≤G.length∧RowsF A G1.length G x6 (facTo es (rF R) t)∧∃ (i:Nat) (M:List Bool),x9=(itF f i t:Nat)∧(∀ a b,a<b→b<i→itF f a t≠itF f b t)∧M.length=2*es.length∧Own G bm 4 (LB M)∧
  Fresh G1.length G x8 2 1 (LI ((List.range i).map fun k=>((itF f k t/2:Nat):Int)))∧∀ x,x<2*es.length→(M.getD x false=true↔MtF f t x∨∃ j,j<i∧itF f j t=x),
  fun _ _ _ _ _ x8 _ _=>2*es.length-lenV x8,⟨rfl,rfl,rfl,rfl,rfl,AHeap.le_trans lG1 l4,l4.1,hRw.le l4,0,M,rfl,fun a b _ hb=>absurd hb (by omega),hM,oM.le l4,.inr ⟨_,0,Nat.le_refl _,rfl,o4,rfl⟩,fun x hx=>?_⟩,?_⟩
 ·rw [hm x hx]
  exact ⟨.inl,fun h=>h.elim id fun ⟨j,hj,_⟩=>absurd hj (by omega)⟩
 clear oM hm hRw o4 hs hM
 rintro x1 x2 x5 y6 x7 x8 x9 G5 ⟨rfl,rfl,rfl,rfl,rfl,lG5,hG5,hRw,i,M,rfl,hdist,hM,oM,f8,hm⟩
 have l05:=AHeap.le_trans l1 lG5
 have hil:=zi4 hp htl hdist
 obtain ⟨d,hd⟩:∃ d,d=itF f i t:=⟨_,rfl⟩
 have hdl:d<2*es.length:=by rw [hd];exact hp.it htl i
 have hlen:((List.range i).map fun k=>((itF f k t/2:Nat):Int)).length=i:=by simp
 rw [← hd]
 unfold F99.B14
 refine zan (by omega) (by omega) (zab oM (by rw [Int.toNat_natCast];exact zdv (by omega)) (zai (zaa (fun hs=>?_) fun hs=>?_)))
 ·-- on
  have hnm:¬ (MtF f t d∨∃ j,j<i∧itF f j t=d):=fun hh=>by
   rw [(hm d hdl).2 hh] at hs;cases hs
  have hdist':∀ a b,a<b→b<i+1→itF f a t≠itF f b t:=fun a b hab hbi=>by
   by_cases e:b=i
   ·subst e
    exact fun e2=>hnm (.inr ⟨a,hab,by rw [hd];exact e2⟩)
   ·exact hdist a b hab (by omega)
  have hil':=zi4 hp htl hdist'
  unfold F99.B13
  refine zan (by omega) (by omega) (zaO oM (by simp;omega) rfl fun G6 b6 o6=>?_)
  rw [Int.toNat_natCast,← List.map_set] at o6
  have lG6:=b6.le lG5 (by omega)
  have hRw6:=hRw.but b6 (fun h=>by rw [hA] at h;omega)
  have f86:=f8.but b6 (by omega)
  unfold F99.B12
  rw [show IntKind.i64.wrap (Int.tdiv ((d:Nat):Int) 2)=((d/2:Nat):Int) by rw [Int.tdiv_eq_ediv_of_nonneg (by omega),zad (by omega) (by omega)];omega]
  unfold F99.B11
  have hb6:=b6.len
  refine f86.sl.pushN zbl (by decide) (by omega) (n:=1) (ys:=[.int .i64 ((d/2:Nat):Int)]) rfl rfl (by simp only [List.length_map,List.length_range,List.length_singleton];omega) (by simp) fun x8' G7 k7 ot7 nb7 f87=>?_
  have lG7:=k7.le lG6 (by have:=lG1.1;omega)
  have l07:=AHeap.le_trans l1 lG7
  have o7:=k7.own o6 (by omega)
  have hRw7:=hRw6.keep k7
  have hE7:=h.le l07
  have og7:Own G7 H.length 26 [.int .i64 n,v]:=o1.le lG7
  obtain ⟨b,o,hk,c1,c2⟩:=hE7.idx (i:=((d/2:Nat):Int)) (by omega) (by omega)
  rw [Int.toNat_natCast] at c1 c2
  unfold F99.B10
  refine zab og7 rfl (hk _ ?_)
  obtain ⟨q1,q2,q3,q4,q5⟩:=zdj hg.endsIn (e:=d/2) (by omega)
  have hcell:∀ K:Int→Prop,K (hdD es d:Nat)→bndK (IntKind.i64.wrap (1-Int.tmod ((d:Nat):Int) 2)) 2 (ldI .i64 G7 b (o+Int.toNat (IntKind.i64.wrap (1-Int.tmod ((d:Nat):Int) 2))*1) K):=by
   intro K hK
   rw [show Int.tmod ((d:Nat):Int) 2=((d%2:Nat):Int) by rw [Int.tmod_eq_emod_of_nonneg (by omega)];omega]
   rw [q1] at c1 c2
   unfold hdD at hK
   by_cases h2:d%2=0
   ·rw [h2] at hK ⊢
    exact zay (by decide) (zap c2 hK)
   ·rw [if_neg h2] at hK
    rw [show d%2=1 by omega]
    exact zay (by decide) (zap c1 hK)
  refine hcell _ ?_
  have hvl:=zmU hg hdl
  unfold F99.B9
  refine zac og7 rfl (zab og7 rfl (zro hE7 hg (hu.le l07) hR hvl (by omega) (zze hg hdl) fun G8 l8=>zag ?_))
  obtain ⟨y,y1,y2,y3,y4,y5,y6,y7⟩:=zcZ hg (rF R) hdl
  rw [y2,y4]
  obtain ⟨e',he'⟩:∃ e',e'=nxD es (rF R) d/2:=⟨_,rfl⟩
  have hel:e'<es.length:=by omega
  rw [← he'] at y7 ⊢
  have l08:=AHeap.le_trans l07 l8
  have og8:=og7.le l8
  have hnx:itF f (i+1) t=nxD es (rF R) d:=by show f (itF f i t)=_;rw [← hd,hf]
  have hM':(M.set d true).length=2*es.length:=by simpa using hM
  have fin:∀ N5:Prop,True→N5→N5:=fun _ _ h=>h
  have stt:(u=u∧H.length=H.length∧(.slice (some ⟨bm,0,none⟩) (2*es.length) (2*es.length+1):Value)=.slice (some ⟨bm,0,none⟩) (2*es.length) (2*es.length+1)∧x6=x6∧(t:Int)=(t:Int)∧H1.le G8∧G1.length≤G8.length∧RowsF A G1.length G8 x6 (facTo es (rF R) t)∧∃ (i:Nat) (M:List Bool),((nxD es (rF R) d:Nat):Int)=(itF f i t:Nat)∧(∀ a b,a<b→b<i→itF f a t≠itF f b t)∧M.length=2*es.length∧Own G8 bm 4 (LB M)∧
   Fresh G1.length G8 x8' 2 1 (LI ((List.range i).map fun k=>((itF f k t/2:Nat):Int)))∧∀ x,x<2*es.length→(M.getD x false=true↔MtF f t x∨∃ j,j<i∧itF f j t=x))∧2*es.length-lenV x8'<2*es.length-lenV x8:=by
   refine ⟨⟨rfl,rfl,rfl,rfl,rfl,AHeap.le_trans lG7 l8,by have:=k7.len;have:=l8.1;omega,hRw7.le l8,i+1,M.set d true,by rw [hnx],hdist',hM',o7.le l8,?_,fun x hx=>?_⟩,?_⟩
   ·rw [List.range_succ,List.map_append]
    simp only [List.map_cons,List.map_nil]
    rw [← hd,show ∀ (A:List Int) (x:Int),LI (A++[x])=LI A++[.int .i64 x] from fun A x=>by simp]
    exact f87.le l8
   ·have hmx:=hm x hx
    by_cases e:d=x
    ·subst e
     have:(M.set d true).getD d false=true:=by simp [List.getD,show d<M.length by omega]
     rw [this]
     exact ⟨fun _=>.inr ⟨i,by omega,hd.symm⟩,fun _=>rfl⟩
    ·have:(M.set d true).getD x false=M.getD x false:=by simp [List.getD,List.getElem?_set,e]
     rw [this,hmx]
     constructor
     ·rintro (h|⟨j,h1,h2⟩)
      ·exact .inl h
      ·exact .inr ⟨j,by omega,h2⟩
     ·rintro (h|⟨j,h1,h2⟩)
      ·exact .inl h
      ·by_cases e2:j=i
       ·subst e2;exact absurd (hd.trans h2) e
       ·exact .inr ⟨j,by omega,h2⟩
   ·rw [zb0 f8.sl,zb0 f87.sl]
    simp only [List.length_map,List.length_append,List.length_range,List.length_singleton,Nat.div_one]
    omega
  obtain ⟨b',o',hk',c1',c2'⟩:=(h.le l08).idx (i:=((e':Nat):Int)) (by omega) (by omega)
  rw [Int.toNat_natCast] at c1' c2'
  obtain ⟨p1,p2,p3,p4,p5⟩:=zdj hg.endsIn hel
  rw [p1] at c1'
  unfold F99.B8 F99.B7
  refine zab og8 rfl (hk' _ (zap c1' (zaa (fun hc=>?_) fun hc=>?_)))
  ·have hne:=bne_iff_ne.1 hc
   unfold F99.B6
   rw [show IntKind.i64.wrap (2*(e':Int))=2*(e':Int) from zad (by omega) (by omega),zad (by omega) (by omega)]
   have:(2*(e':Int)+1)=((nxD es (rF R) d:Nat):Int):=by
    rw [y7];unfold outD
    rw [if_neg (fun h=>hne (by rw [h]))];omega
   rw [this];exact stt
  ·have heq:=bne_eq_false_iff_eq.1 hc
   rw [zad (by omega) (by omega)]
   have:(2*(e':Int))=((nxD es (rF R) d:Nat):Int):=by
    rw [y7];unfold outD
    rw [if_pos (by omega)];omega
   rw [this];exact stt
 ·-- back
  have hmt:MtF f t d∨∃ j,j<i∧itF f j t=d:=(hm d hdl).1 (by simpa using hs)
  have hi0:0<i:=by
   rcases Nat.eq_zero_or_pos i with rfl|h
   ·exfalso
    have hdt:d=t:=hd
    rw [hdt] at hmt
    rcases hmt with h|⟨j,hj,_⟩
    ·exact MtF.lead.1 hld h
    ·omega
   ·exact h
  have hper:=hp.walk htl hld hi0 hdist (by rw [← hd];exact hmt)
  unfold F99.B4
  refine hRw.push hG5 (fun b hb=>hAb b (by omega)) f8 (by omega) fun v' G7 ot7 nb7 len7 hR7=>?_
  have k7:∀ b o,b<H2.length→G5[b]?=some (some o)→G7[b]?=some (some o):=by
   intro b o hb ho
   refine ot7 b o (fun hv=>?_) ho
   obtain ⟨vs,_,_,q3,_⟩:=hRw
   have:=(q3 b hv).1
   rw [hA] at this;omega
  unfold F99.B3
  rw [zad (by omega) (by omega)]
  refine ⟨⟨rfl,rfl,rfl,⟨by have:=lG5.1;omega,fun b o ho=>k7 b o (by have:=zaj ho;omega) (lG5.2 b o ho)⟩,by omega,t+1,M,by omega,by omega,hM,k7 bm _ (by omega) oM,?_,fun x hx=>?_⟩,by simp;omega⟩
  ·rw [zmb (by rw [← hf];exact hld) (by rw [← hf];exact hper),← hf];exact hR7
  ·rw [hm x hx,MtF.succ,zsK hp htl hper]
end Go.Proofs
namespace Go.Proofs
open Go.Abs

variable {H G:AHeap}

theorem ztT {P:Program} {k:TypeId} {f1 f2:Field} (hU:P.underlying k=some (.struct #[f1,f2])) (h1:P.underlying f1.type=some (.int .i64)) (h2:P.underlying f2.type=some .bool) (o1:f1.offset=0) (o2:f2.offset=1)
 (c0 : P.cellsOf k = 2) (c1 : P.cellsOf f1.type = 1) (c2 : P.cellsOf f2.type = 1) (m1 : (f1.name != "_") = true) (m2 : (f2.name != "_") = true) (hk : P.keyType k = true) (hs : P.types.size ≠ 0) {n : Int} {b : Bool} (hn : (Lit.int .i64 n).wf = true) :
 ∃ l,keyOf P k (.agg ⟨[.int .i64 n,.bool b]⟩)=some l:=by
 obtain ⟨d,hd⟩:∃ d,P.types.size=d+1:=⟨P.types.size-1,by omega⟩
 have e1:P.keyLits (d+1) f1.type [.int .i64 n]=some [.int .i64 n]:=by simp [Program.keyLits,h1,hn]
 have e2:P.keyLits (d+1) f2.type [.bool b]=some [.bool b]:=by simp [Program.keyLits,h2]
 have e3:P.keyLits (d+1+1) k [.int .i64 n,.bool b]=some [.int .i64 n,.bool b]:=by
  have m1' : ¬ f1.name = "_" := by simpa using m1
  have m2' : ¬ f2.name = "_" := by simpa using m2
  have g1:P.keyLits (d+1) f1.type [.int .i64 n]=some [.int .i64 n]:=e1
  unfold Program.keyLits
  simp only [hU]
  rw [if_pos ⟨by simp [c0],by simp [m1',m2']⟩]
  simp [o1,o2,c1,c2,e1,e2]
 unfold keyOf
 rw [hU]
 have hf:Value.formed P k (.agg ⟨[.int .i64 n,.bool b]⟩)=true:=by simp [Value.formed,hU,c0]
 simp only [hk,hf,Bool.and_self,if_true]
 rw [hd]
 have e4:(Value.agg ⟨[.int .i64 n,.bool b]⟩).cells.toList=[.int .i64 n,.bool b]:=rfl
 rw [e4,e3]
 exact ⟨_,rfl⟩
noncomputable def dirFs:Array Field:=match Tryz.prog.underlying 107 with|some (.struct fs)=>fs|_=>#[]
noncomputable def dirF (i:Nat):Field:=dirFs.toList.getD i default
abbrev dirKey (d:Nat × Bool):Value:=.agg ⟨[.int .i64 (d.1:Nat),.bool d.2]⟩
theorem dirLaw:WideMaps.KeyLaw Tryz.prog 107:=deep_law (m:=2) (by decide) (by kernel_rfl) (by kernel_rfl) (by kernel_rfl)
theorem zdZ {d:Nat × Bool} (hd:d.1<4611686018427387904):∃ l,keyOf Tryz.prog 107 (dirKey d)=some l:=
 ztT (f1:=dirF 0) (f2:=dirF 1) (by kernel_rfl) (by kernel_rfl) (by kernel_rfl) (by kernel_rfl) (by kernel_rfl) (by kernel_rfl) (by kernel_rfl) (by kernel_rfl) (by kernel_rfl) (by kernel_rfl) (by kernel_rfl) (of_decide_eq_true (by kernel_rfl)) (by
  simp [Lit.wf,IntKind.min,IntKind.max,IntKind.bits,IntKind.signed];omega)
def DirM (G:AHeap) (b:Nat) (D:List (Nat × Bool)):Prop:=∃ es cl,G[b]?=some (some (.map es cl))∧es.toList.map MapEntry.key=D.map dirKey∧D.Nodup∧∀ d∈D,d.1<4611686018427387904
theorem DirM.le {b:Nat} {D:List (Nat × Bool)} (h:DirM H b D) (hl:H.le G):DirM G b D:=by
 obtain ⟨es,cl,h1,h2⟩:=h
 exact ⟨es,cl,hl.2 _ _ h1,h2⟩
theorem DirM.lt {b:Nat} {D:List (Nat × Bool)} (h:DirM H b D):b<H.length:=by
 obtain ⟨es,cl,h1,_⟩:=h;exact zaj h1
theorem zvn {K:Nat→AHeap→Prop} (k:∀ G,H.le G→G.length=H.length+1→DirM G H.length []→K H.length G):newM H K:=
 k _ (AHeap.le_append _ _) (by simp) ⟨#[],0,by simp,rfl,List.nodup_nil,fun d hd=>by cases hd⟩
theorem zg3 {a b:Nat × Bool} (h:dirKey a=dirKey b):a=b:=by
 simp only [Value.agg.injEq,Array.mk.injEq,List.cons.injEq,Value.int.injEq,Value.bool.injEq,true_and,and_true] at h
 exact Prod.ext (by omega) h.2
theorem zyr {b:Nat} {D:List (Nat × Bool)} {d:Nat × Bool} {K:AHeap→Prop} (h:DirM H b D) (hd:d.1<4611686018427387904)
 (k:∀ G,But b H G→DirM G b (if d∈D then D else D++[d])→K G):mupK Tryz.prog 107 H (.map (some b)) (dirKey d) (.bool true) K:=by
 obtain ⟨es,cl,h1,h2,h3,h4⟩:=h
 have hlt:=zaj h1
 have hkeys:∀ e∈es.toList,∃ a∈D,e.key=dirKey a:=fun e he=>by
  have:e.key∈es.toList.map MapEntry.key:=List.mem_map.2 ⟨e,he,rfl⟩
  rw [h2] at this
  obtain ⟨a,ha,hk⟩:=List.mem_map.1 this
  exact ⟨a,ha,hk.symm⟩
 have but:∀ o,But b H (H.set b o):=fun o=>⟨by simp,fun c hc=>List.getElem?_set_ne (by omega)⟩
 refine ⟨b,es,cl,rfl,h1,dirLaw,rfl,zdZ hd,fun e he=>?_,rfl,fun hn=>?_,fun j e hj he=>?_⟩
 ·obtain ⟨a,ha,hk⟩:=hkeys e he
  rw [hk];exact zdZ (h4 a ha)
 ·have hnd:d∉D:=fun hm=>by
   have:dirKey d∈es.toList.map MapEntry.key:=by rw [h2];exact List.mem_map.2 ⟨d,hm,rfl⟩
   obtain ⟨e,he,hk⟩:=List.mem_map.1 this
   exact hn e he hk
  refine k _ (but _) ?_
  rw [if_neg hnd]
  refine ⟨_,_,List.getElem?_set_self hlt,?_,?_,fun a ha=>?_⟩
  ·rw [Array.toList_push,List.map_append,List.map_append,h2];rfl
  ·rw [List.nodup_append]
   refine ⟨h3,by simp,fun a ha c hc=>?_⟩
   rw [List.mem_singleton] at hc
   rintro rfl
   rw [hc] at ha;exact hnd ha
  ·rcases List.mem_append.1 ha with ha|ha
   ·exact h4 a ha
   ·rw [List.mem_singleton] at ha;rw [ha];exact hd
 ·have hm:d∈D:=by
   have:e∈es.toList:=Array.mem_toList_iff.2 (Array.mem_of_getElem? hj)
   obtain ⟨a,ha,hk⟩:=hkeys e this
   rw [he] at hk
   rw [zg3 hk];exact ha
  refine k _ (but _) ?_
  rw [if_pos hm]
  refine ⟨_,_,List.getElem?_set_self hlt,?_,h3,h4⟩
  rw [← h2]
  apply List.ext_getElem?
  intro i
  simp only [List.getElem?_map,Array.getElem?_toList,Array.getElem?_modify]
  by_cases hij:j=i
  ·subst hij
   rw [hj];simp [he]
  ·simp [hij]
theorem zwr {b:Nat} {D:List (Nat × Bool)} {K:Nat→Prop} (h:DirM H b D) (k:K D.length):mlenK H (.map (some b)) K:=by
 obtain ⟨es,cl,h1,h2,_⟩:=h
 refine ⟨es,cl,h1,?_⟩
 have:=congrArg List.length h2
 rw [List.length_map,List.length_map,Array.length_toList] at this
 rw [this];exact k
end Go.Proofs
namespace Go.Proofs
open Go.Abs

variable {H G:AHeap} {v u f w:Value} {l m R:List Int} {es fs:List (Int × Int)} {K:Value→AHeap→Prop} {n:Int} {D:List (Nat × Bool)}

def DirV (G:AHeap) (b:Nat) (D:List (Nat × Bool)):Prop:=∃ es cl,G[b]?=some (some (.map es cl))∧es.toList.map MapEntry.key=D.map dirKey∧(∀ e∈es.toList,e.val=.bool true)∧∀ d∈D,d.1<4611686018427387904
theorem DirV.old {b:Nat} (h:DirV H b D) (k:∀ o,H[b]?=some (some o)→G[b]?=some (some o)):DirV G b D:=by
 obtain ⟨es,cl,h1,h2⟩:=h
 exact ⟨es,cl,k _ h1,h2⟩
theorem DirV.le {b:Nat} (h:DirV H b D) (hl:H.le G):DirV G b D:=h.old fun o ho=>hl.2 _ _ ho
theorem DirV.lt {b:Nat} (h:DirV H b D):b<H.length:=by obtain ⟨es,cl,h1,_⟩:=h;exact zaj h1
theorem ztF {K:Nat→AHeap→Prop} (k:∀ G,H.le G→G.length=H.length+1→DirV G H.length []→K H.length G):newM H K:=
 k _ (AHeap.le_append _ _) (by simp) ⟨#[],0,by simp,rfl,fun e he=>by simp at he,fun d hd=>by cases hd⟩
theorem zva {b:Nat} {d:Nat × Bool} {K:AHeap→Prop} (h:DirV H b D) (hd:d.1<4611686018427387904) (hn:d∉D)
 (k:∀ G,But b H G→DirV G b (D++[d])→K G):mupK Tryz.prog 107 H (.map (some b)) (dirKey d) (.bool true) K:=by
 obtain ⟨es,cl,h1,h2,h3,h4⟩:=h
 have hlt:=zaj h1
 have hkeys:∀ e∈es.toList,∃ a∈D,e.key=dirKey a:=fun e he=>by
  have:e.key∈es.toList.map MapEntry.key:=List.mem_map.2 ⟨e,he,rfl⟩
  rw [h2] at this
  obtain ⟨a,ha,hk⟩:=List.mem_map.1 this
  exact ⟨a,ha,hk.symm⟩
 have but:∀ o,But b H (H.set b o):=fun o=>⟨by simp,fun c hc=>List.getElem?_set_ne (by omega)⟩
 refine ⟨b,es,cl,rfl,h1,dirLaw,rfl,zdZ hd,fun e he=>?_,rfl,fun _=>?_,fun j e hj he=>?_⟩
 ·obtain ⟨a,ha,hk⟩:=hkeys e he
  rw [hk];exact zdZ (h4 a ha)
 ·refine k _ (but _) ⟨_,_,List.getElem?_set_self hlt,?_,fun e he=>?_,fun a ha=>?_⟩
  ·rw [Array.toList_push,List.map_append,List.map_append,h2];rfl
  ·rw [Array.toList_push] at he
   rcases List.mem_append.1 he with he|he
   ·exact h3 e he
   ·rw [List.mem_singleton.1 he]
  ·rcases List.mem_append.1 ha with ha|ha
   ·exact h4 a ha
   ·rw [List.mem_singleton.1 ha];exact hd
 ·have:e∈es.toList:=Array.mem_toList_iff.2 (Array.mem_of_getElem? hj)
  obtain ⟨a,ha,hk⟩:=hkeys e this
  rw [he] at hk
  rw [zg3 hk] at hn
  exact absurd ha hn
theorem zwD {b:Nat} {d:Nat × Bool} {K:Value→Prop} (h:DirV H b D) (hd:d.1<4611686018427387904) (k:∀ q:Bool,(q=true↔d∈D)→K (.bool q)):lupK Tryz.prog 107 H (.map (some b)) (dirKey d) (.bool false) false K:=by
 obtain ⟨es,cl,h1,h2,h3,h4⟩:=h
 have hkeys:∀ e∈es.toList,∃ a∈D,e.key=dirKey a:=fun e he=>by
  have:e.key∈es.toList.map MapEntry.key:=List.mem_map.2 ⟨e,he,rfl⟩
  rw [h2] at this
  obtain ⟨a,ha,hk⟩:=List.mem_map.1 this
  exact ⟨a,ha,hk.symm⟩
 refine ⟨b,es,cl,rfl,h1,dirLaw,rfl,zdZ hd,fun e he=>?_,rfl,fun hn=>?_,fun j e hj he=>?_⟩
 ·obtain ⟨a,ha,hk⟩:=hkeys e he
  rw [hk];exact zdZ (h4 a ha)
 ·refine k false ⟨(fun h=>by cases h),fun hm=>?_⟩
  have:dirKey d∈es.toList.map MapEntry.key:=by rw [h2];exact List.mem_map.2 ⟨d,hm,rfl⟩
  obtain ⟨e,he,hk⟩:=List.mem_map.1 this
  exact absurd hk (hn e he)
 ·have hm:e∈es.toList:=Array.mem_toList_iff.2 (Array.mem_of_getElem? hj)
  have hv:=h3 e hm
  obtain ⟨a,ha,hk⟩:=hkeys e hm
  rw [he] at hk
  rw [hv]
  exact ⟨rfl,k true ⟨fun _=>by rw [zg3 hk];exact ha,fun _=>rfl⟩⟩
def dkD (d:Nat):Nat × Bool:=(d/2,decide (d%2=1))
theorem zyM {a b:Nat} (h:dkD a=dkD b):a=b:=by
 unfold dkD at h
 rw [Prod.mk.injEq,decide_eq_decide] at h
 omega
theorem zwu {e:Int} (h:Ints H v l) (hl:l.length≤1048576) (he:e∈l) (k:∀ r:Nat,r<l.length→l.getD r 0=e→(∀ j,j<r→l.getD j 0≠e)→K (.int .i64 (r:Nat)) H) :
 AC Tryz.prog T0 191 [v,.int .i64 e] H K:=by
 apply F191.ac
 unfold F191.B9 F191.B8
 refine h.len ?_
 unfold F191.L2
 refine ⟨fun x0 x1 x7 x8 G=>v=x0∧e=x1∧(l.length:Int)=x7∧H=G∧∃ i:Nat,x8=i∧i≤l.length∧∀ j,j<i→l.getD j 0≠e,fun _ _ _ x8 _=>l.length-x8.toNat,⟨rfl,rfl,rfl,rfl,0,rfl,by omega,fun j hj=>absurd hj (by omega)⟩,?_⟩
 rintro x0 x1 x7 x8 G ⟨rfl,rfl,rfl,rfl,i,rfl,hi,hno⟩
 unfold F191.B7
 refine zaa (fun hb=>?_) fun hb=>?_
 ·have hlt:i<l.length:=by have:=of_decide_eq_true hb;omega
  unfold F191.B6 F191.B5
  refine h.rd (by omega) (by omega) ?_
  rw [Int.toNat_natCast]
  refine zaa (fun hc=>?_) fun hc=>?_
  ·unfold F191.B4
   exact k i hlt (beq_iff_eq.1 hc).symm hno
  ·unfold F191.B3
   rw [zad (by omega) (by omega)]
   refine ⟨⟨rfl,rfl,rfl,rfl,i+1,by omega,by omega,fun j hj=>?_⟩,by simp;omega⟩
   by_cases e':j=i
   ·subst e';exact fun h=>beq_eq_false_iff_ne.1 hc h.symm
   ·exact hno j (by omega)
 ·exfalso
  have hie:i=l.length:=by have:=of_decide_eq_false hb;omega
  subst hie
  obtain ⟨j,hj,hje⟩:=List.getElem_of_mem he
  exact hno j hj (by rw [zae hj];exact hje)
theorem zsY {d:Nat} (h:Edges H v es) (hg:IsG n es) (hu:Ints H u R) (hR:RotP n R) (hd:d<2*es.length)
 (k:∀ G,H.le G→K (.agg ⟨[.int .i64 ((nxD es (rF R) d/2:Nat):Int),.bool (decide (nxD es (rF R) d%2=1))]⟩) G) :
 AC Tryz.prog T0 153 [.agg ⟨[.int .i64 n,v]⟩,u,.agg ⟨[.int .i64 ((d/2:Nat):Int),.bool (decide (d%2=1))]⟩] H K:=by
 have h30:es.length≤30:=by have:=hg.ed.len;have:=hg.ed.hi;omega
 have hvl:=zmU hg hd
 obtain ⟨r0,r1,r2,r3⟩:=hR.get hvl
 obtain ⟨q1,q2,q3,q4,q5⟩:=zdj hg.endsIn (e:=d/2) (by omega)
 apply F153.ac
 unfold F153.B6
 refine zaf (zak (zah h)) fun H1 l1 n1 o1=>zaf (by rfl) fun H2 l2 n2 o2=>zaf rfl fun H3 l3 n3 o3=>?_
 have o13:=(o1.le l2).le l3
 have o23:=o2.le l3
 have l03:=AHeap.le_trans l1 (AHeap.le_trans l2 l3)
 unfold F153.B5
 refine zac o13 rfl (zab o13 rfl (zac o23 rfl (zab o23 rfl (zai (zxU (h.le l03) (by omega) fun H4 l4=>zag ?_)))))
 have hhd:(if decide (d%2=1)=true then (es.getD (d/2) (0,0)).1 else (es.getD (d/2) (0,0)).2)=((hdD es d:Nat):Int):=by
  rw [q1]
  unfold hdD
  by_cases h2:d%2=0
  ·rw [if_neg (by simp;omega),if_pos h2]
  ·rw [if_pos (by simp;omega),if_neg h2]
 rw [hhd]
 have l04:=AHeap.le_trans l03 l4
 have o14:=o13.le l4
 unfold F153.B4
 refine zac o14 rfl (zab o14 rfl (zjC (h.le l04) (by omega) fun x8 H5 l5 f5=>?_))
 have l05:=AHeap.le_trans l04 l5
 have o25:=(o23.le l4).le l5
 obtain ⟨a,b,c,a1,a2,a3,a4,a5⟩:=at3 hg hvl
 have hl3:(atL es (hdD es d:Int)).length=3:=by rw [a1];rfl
 unfold F153.B3
 refine (hu.le l05).rd (by omega) (by have:=hR.1;omega) ?_
 rw [Int.toNat_natCast,r2,zad (by omega) (by omega)]
 obtain ⟨i,i3,i1,i2,i4,i5,i6,i7⟩:=zcZ hg (rF R) hd
 unfold F153.B2
 refine zac o25 rfl (zwu f5.ints (by omega) (by rw [← i2,zae (show i<(atL es (hdD es d:Int)).length by omega)];exact List.getElem_mem _) fun r hr1 hr2 hr3=>zag ?_)
 have hri:r=i:=zpR hg hvl (by omega) i3 (hr2.trans i2.symm)
 subst hri
 rw [zad (by omega) (by omega),show Int.tmod ((r:Int)+(1+(rF R (hdD es d):Int))) 3=(((r+1+rF R (hdD es d))%3:Nat):Int) by rw [Int.tmod_eq_emod_of_nonneg (by omega)];omega]
 refine f5.ints.rd (by omega) (by have:=Nat.mod_lt (r+1+rF R (hdD es d)) (show 3>0 by omega);omega) ?_
 rw [Int.toNat_natCast,i4]
 obtain ⟨e',he'⟩:∃ e',e'=nxD es (rF R) d/2:=⟨_,rfl⟩
 have hel:e'<es.length:=by omega
 rw [← he'] at i7 k ⊢
 have o15:=o14.le l5
 have o35:=(o3.le l4).le l5
 obtain ⟨b',o',hk',c1',c2'⟩:=(h.le l05).idx (i:=((e':Nat):Int)) (by omega) (by omega)
 rw [Int.toNat_natCast] at c2'
 obtain ⟨p1,p2,p3,p4,p5⟩:=zdj hg.endsIn hel
 rw [p1] at c2'
 unfold F153.B1
 refine zab o15 rfl (hk' _ (zap c2' (zaG (new:=[.int .i64 (e':Int),.bool (((ebN es e':Nat):Int)==((hdD es d:Nat):Int))]) o35 (by simp) (by simp [Value.oneCell']) rfl fun G6 b6 o6=>zac o6 rfl (zab o6 rfl (zai ?_)))))
 have hbb:(((ebN es e':Nat):Int)==((hdD es d:Nat):Int))=decide (nxD es (rF R) d%2=1):=by
  have hon:=(zmn hg hel (v:=hdD es d)).1 (by
   have:=zze hg i5
   have ht:=zyx hg (v:=hdD es d) i5
   rw [← he'] at ht
   rw [ht.1,i6];simp)
  rw [Bool.eq_iff_iff,beq_iff_eq,decide_eq_true_iff,i7]
  unfold outD
  by_cases hx:eaN es e'=hdD es d
  ·rw [if_pos hx];omega
  ·rw [if_neg hx];omega
 rw [hbb]
 exact k G6 (b6.le l05 (by have:=l1.1;have:=l2.1;omega))
theorem zwO:∀ c:Int,Cl H (.func (.func 152) ⟨[]⟩ ⟨[]⟩) (.int .i64 c) (decide (0≤c∧c≤1)):=by
 intro c G hG K k
 refine zaJ ?_
 apply F152.ac
 unfold F152.B2 F152.B1
 exact zbZ (zai (k G (AHeap.le_refl _)))
theorem zpq (hu:Ints H u R) (hl:R.length≤1048576) (hv:v.oneCell'=true) (k:∀ G,H.le G→K (.bool (decide (RotP n R))) G) :
 AC Tryz.prog T0 96 [.agg ⟨[.int .i64 n,v]⟩,u] H K:=by
 apply F96.ac
 unfold F96.B2
 refine zaf (zak hv) fun H1 l1 n1 o1=>?_
 unfold F96.B1
 refine zac o1 rfl (zku (hu.le l1) (zag ⟨AHeap.le_refl _,zaa (fun hb=>?_) fun hb=>?_⟩))
 ·have hb:=beq_iff_eq.1 hb
  refine zd9 (p:=fun c=>decide (0≤c∧c≤1)) (hu.le l1) (by omega) rfl (fun e he=>zwO e) fun G lG=>zai ?_
  have:(R.all fun c=>decide (0≤c∧c≤1))=decide (RotP n R):=by
   rw [Bool.eq_iff_iff,List.all_eq_true,decide_eq_true_iff]
   exact ⟨fun h=>⟨hb,fun x hx=>of_decide_eq_true (h x hx)⟩,fun h x hx=>decide_eq_true (h.2 x hx)⟩
  rw [this];exact k G (AHeap.le_trans l1 lG)
 ·have hb:=beq_eq_false_iff_ne.1 hb
  have:=k H1 l1
  rw [decide_eq_false (fun h:RotP n R=>hb h.1)] at this
  exact this
theorem monoC {A A':Nat→Prop} {B:Nat} {ls:List (List Int)} (h:RowsF A B H v ls) (ha:∀ b,A b→b<B→A' b):RowsF A' B H v ls:=by
 obtain ⟨vs,h1,h2,h3,h4⟩:=h
 refine ⟨vs,h1,h2,fun b hb=>⟨ha b (h3 b hb).1 (h3 b hb).2,(h3 b hb).2⟩,fun i hi=>?_⟩
 obtain ⟨w,g1,g2,g3⟩:=h4 i hi
 exact ⟨w,g1,g2,fun b hb=>⟨ha b (g3 b hb).1 (g3 b hb).2.1,(g3 b hb).2⟩⟩
theorem zpn (h:Edges H v es) (hg:IsG n es) (hu:Ints H u R) (hR:RotP n R) (k:∀ v' G,H.le G→RowsF (fun b=>H.length≤b) G.length G v' (facL es (rF R))→K v' G) :
 AC Tryz.prog T0 97 [.agg ⟨[.int .i64 n,v]⟩,u] H K:=by
 have h30:es.length≤30:=by have:=hg.ed.len;have:=hg.ed.hi;omega
 obtain ⟨f,hf⟩:∃ f,f=nxD es (rF R):=⟨_,rfl⟩
 have hp:PmF f (2*es.length):=by rw [hf];exact zeK hg _
 apply F97.ac
 unfold F97.B25
 refine zaf (zak (zah h)) fun H1 l1 n1 o1=>?_
 unfold F97.B24
 refine ztF fun H2 l2 n2 m2=>?_
 obtain ⟨bm,hbm⟩:∃ bm,bm=H1.length:=⟨_,rfl⟩
 rw [← hbm] at m2 ⊢
 obtain ⟨A,hA⟩:∃ A:Nat→Prop,A=fun b=>H2.length≤b:=⟨_,rfl⟩
 unfold F97.B23 F97.B22
 refine zab (o1.le l2) rfl ((h.le (AHeap.le_trans l1 l2)).len ?_)
 unfold F97.L2
 refine ⟨fun x1 x2 x5 x6 x15 x16 G=>u=x1∧H.length=x2∧.map (some bm)=x5∧(es.length:Int)=x15∧H1.le G∧H2.length≤G.length∧∃ (e:Nat) (D:List (Nat × Bool)),x16=e∧e≤es.length∧DirV G bm D∧RowsF A G.length G x6 (facTo es (rF R) (2*e))∧∀ x,x<2*es.length→(dkD x∈D↔MtF f (2*e) x),
  fun _ _ _ _ _ x16 _=>es.length-x16.toNat,⟨rfl,rfl,rfl,rfl,l2,Nat.le_refl _,0,[],rfl,by omega,m2,.nil,fun x hx=>⟨fun h=>absurd h (by simp),fun ⟨e,h1,_⟩=>absurd h1 (by omega)⟩⟩,?_⟩
 clear m2
 rintro x1 x2 x5 x6 x15 x16 G1 ⟨rfl,rfl,rfl,rfl,lG1,hG1,e,D1,rfl,he,hM1,hR1,hm1⟩
 unfold F97.B21
 refine zaa (fun hb=>?_) fun hb=>?_
 rotate_left
 ·have hee:e=es.length:=by have:=of_decide_eq_false hb;omega
  subst hee
  rw [zm7] at hR1
  unfold F97.B1
  exact k _ _ (AHeap.le_trans l1 lG1) (hR1.mono (fun b hb=>by rw [hA] at hb;have:=l1.1;have:=l2.1;omega) (Nat.le_refl _))
 have hel:e<es.length:=by have:=of_decide_eq_true hb;omega
 clear hb
 unfold F97.B20 F97.B19
 refine zaf rfl fun G2 l12 n12 o12=>?_
 obtain ⟨bb,hbb⟩:∃ bb,bb=G1.length:=⟨_,rfl⟩
 rw [← hbb] at o12 ⊢
 obtain ⟨A',hA'⟩:∃ A':Nat→Prop,A'=fun b=>H2.length≤b∧b≠bb:=⟨_,rfl⟩
 unfold F97.L4
 refine ⟨fun x1 x2 x5 x6 x7 x15 x16 x19 x20 x21 G=>u=x1∧H.length=x2∧.map (some bm)=x5∧(e:Int)=x7∧(es.length:Int)=x15∧(e:Int)=x16∧.slice (some ⟨bb,0,none⟩) 2 (2+1)=x19∧(2:Int)=x20∧H1.le G∧G2.length≤G.length∧Own G bb 4 [.bool false,.bool true]∧∃ (s:Nat) (D:List (Nat × Bool)),x21=s∧s≤2∧DirV G bm D∧RowsF A' G.length G x6 (facTo es (rF R) (2*e+s))∧∀ x,x<2*es.length→(dkD x∈D↔MtF f (2*e+s) x),
  fun _ _ _ _ _ _ _ _ _ x21 _=>2-x21.toNat,⟨rfl,rfl,rfl,rfl,rfl,rfl,rfl,rfl,AHeap.le_trans lG1 l12,Nat.le_refl _,o12,0,D1,rfl,by omega,hM1.le l12,?_,hm1⟩,?_⟩
 ·exact (monoC (hR1.le l12) fun b hb hlt=>by rw [hA] at hb;rw [hA'];exact ⟨hb,by omega⟩).mono (fun _ h=>h) (by omega)
 clear hM1 hR1 hm1 o12 D1
 rintro x1 x2 x5 x6 x7 x15 x16 x19 x20 x21 G3 ⟨rfl,rfl,rfl,rfl,rfl,rfl,rfl,rfl,lG3,hG3,ob,s,D3,rfl,hs2,hM3,hR3,hm3⟩
 unfold F97.B18
 refine zaa (fun hb=>?_) fun hb=>?_
 rotate_left
 ·have hse:s=2:=by have:=of_decide_eq_false hb;omega
  subst hse
  unfold F97.B3
  rw [zad (by omega) (by omega)]
  refine ⟨⟨rfl,rfl,rfl,rfl,lG3,by omega,e+1,D3,by omega,by omega,hM3,?_,hm3⟩,by simp;omega⟩
  exact hR3.mono (fun b hb=>by rw [hA'] at hb;rw [hA];exact hb.1) (Nat.le_refl _)
 have hsl:s<2:=by have:=of_decide_eq_true hb;omega
 clear hb
 obtain ⟨t,ht⟩:∃ t,t=2*e+s:=⟨_,rfl⟩
 have htl:t<2*es.length:=by omega
 rw [← ht] at hR3 hm3
 have hfl:=zhF (es:=es) (r:=rF R) (t:=t)
 have hbit:([.bool false,.bool true]:List Value)[(s:Int).toNat]?=some (.bool (decide (s=1))):=by
  rw [Int.toNat_natCast]
  rcases (by omega:s=0∨s=1) with rfl|rfl <;> rfl
 unfold F97.B17
 refine zan (by omega) (by omega) (zab ob hbit (zai ?_))
 unfold F97.B16 F97.B15
 refine zaf rfl fun G4 l4 n4 o4=>zaG (new:=[.int .i64 (e:Int),.bool (decide (s=1))]) o4 (by simp) (by simp [Value.oneCell']) rfl fun G5 b5 o5=>?_
 have l5:G3.le G5:=b5.le l4 (Nat.le_refl _)
 unfold F97.L8
 refine ⟨fun x1 x2 x5 y6 x7 x10 x11 x15 x16 x19 x20 x21 G=>u=x1∧H.length=x2∧.map (some bm)=x5∧x6=y6∧(e:Int)=x7∧(es.length:Int)=x15∧(e:Int)=x16∧.slice (some ⟨bb,0,none⟩) 2 (2+1)=x19∧(2:Int)=x20∧(s:Int)=x21∧H1.le G∧G3.length≤G.length∧G3.length≤x11∧Own G bb 4 [.bool false,.bool true]∧RowsF A' G3.length G x6 (facTo es (rF R) t)∧∃ (i:Nat) (D:List (Nat × Bool)),(0<i→LdF f t)∧(∀ a b,a<b→b<i→itF f a t≠itF f b t)∧
  Own G x11 107 [.int .i64 ((itF f i t/2:Nat):Int),.bool (decide (itF f i t%2=1))]∧bk x10≠some x11∧Fresh G3.length G x10 2 1 (LI ((List.range i).map fun k=>((itF f k t/2:Nat):Int)))∧DirV G bm D∧∀ x,x<2*es.length→(dkD x∈D↔MtF f t x∨∃ j,j<i∧itF f j t=x),
  fun _ _ _ _ _ x10 _ _ _ _ _ _ _=>2*es.length-lenV x10,⟨rfl,rfl,rfl,rfl,rfl,rfl,rfl,rfl,rfl,rfl,AHeap.le_trans lG3 l5,l5.1,Nat.le_refl _,ob.le l5,hR3.le l5,0,D3,fun h=>absurd h (by omega),fun a b _ hb=>absurd hb (by omega),?_,(fun h=>by cases h),.inl ⟨rfl,.inl rfl⟩,hM3.le l5,fun x hx=>?_⟩,?_⟩
 ·have e1:itF f 0 t/2=e:=by show t/2=e;omega
  have e2:decide (itF f 0 t%2=1)=decide (s=1):=by rw [decide_eq_decide];show t%2=1↔_;omega
  rw [e1,e2];exact o5
 ·rw [hm3 x hx]
  exact ⟨.inl,fun h=>h.elim id fun ⟨j,hj,_⟩=>absurd hj (by omega)⟩
 clear hM3 hm3 o4 o5 ob hR3
 rintro x1 x2 x5 y6 x7 x10 x11 x15 x16 x19 x20 x21 G6 ⟨rfl,rfl,rfl,rfl,rfl,rfl,rfl,rfl,rfl,rfl,lG6,hG6,h11,ob,hRw,i,D,hild,hdist,o11,hne,f10,hM,hm⟩
 obtain ⟨d,hd⟩:∃ d,d=itF f i t:=⟨_,rfl⟩
 have hdl:d<2*es.length:=by rw [hd];exact hp.it htl i
 rw [← hd] at o11
 have hil:=zi4 hp htl hdist
 have hlen:((List.range i).map fun k=>((itF f k t/2:Nat):Int)).length=i:=by simp
 unfold F97.B14
 refine zac o11 rfl (zab o11 rfl (zai (zwD (d:=dkD d) hM (by show d/2<_;omega) fun q hq=>zai (zaa (fun hs=>?_) fun hs=>?_))))
 ·-- on
  have hnm:¬ (MtF f t d∨∃ j,j<i∧itF f j t=d):=fun hh=>by
   rw [hq.2 ((hm d hdl).2 hh)] at hs;cases hs
  have hdist':∀ a b,a<b→b<i+1→itF f a t≠itF f b t:=fun a b hab hbi=>by
   by_cases e:b=i
   ·subst e
    exact fun e2=>hnm (.inr ⟨a,hab,by rw [hd];exact e2⟩)
   ·exact hdist a b hab (by omega)
  have hil':=zi4 hp htl hdist'
  have hild':LdF f t:=by
   rcases Nat.eq_zero_or_pos i with rfl|h
   ·exact MtF.lead.2 fun hh=>hnm (.inl (by rw [show d=t from hd];exact hh))
   ·exact hild h
  have hbmG:=hM.lt
  unfold F97.B13
  refine zac o11 rfl (zab o11 rfl (zai (zva (d:=dkD d) hM (by show d/2<_;omega) (fun hh=>hnm ((hm d hdl).1 hh)) fun G7 b7 m7=>?_)))
  have lG7:=b7.le lG6 (by omega)
  have o117:=b7.own o11 (by have:=lG3.1;omega)
  have ob7:=b7.own ob (by omega)
  have hRw7:=hRw.but b7 (fun h=>by rw [hA'] at h;omega)
  have f107:=f10.but b7 (by omega)
  have hb7:=b7.len
  unfold F97.B12
  refine zac o117 rfl (f107.sl.pushN zbl (by decide) (by omega) (n:=1) (ys:=[.int .i64 ((d/2:Nat):Int)]) rfl rfl (by simp only [List.length_map,List.length_range,List.length_singleton];omega) (by simp) fun x8' G8 k8 ot8 nb8 f8=>?_)
  have lG8:=k8.le lG7 (by have:=lG3.1;omega)
  have o118:Own G8 x11 107 [.int .i64 ((d/2:Nat):Int),.bool (decide (d%2=1))]:=ot8 _ _ hne o117
  have ob8:=k8.own ob7 (by omega)
  have hRw8:=hRw7.keep k8
  have m8:=m7.old (G:=G8) fun o ho=>k8.old bm o (by omega) ho
  have hk8:=k8.len
  unfold F97.B11
  refine zac o118 rfl (zab o118 rfl (zai ?_))
  unfold F97.B10
  refine zaf rfl fun G9 l9 n9 o9=>zaG (new:=[.int .i64 ((d/2:Nat):Int),.bool (decide (d%2=1))]) o9 (by simp) (by simp [Value.oneCell']) rfl fun G10 b10 o10=>?_
  have l10:G8.le G10:=b10.le l9 (Nat.le_refl _)
  have lG10:=AHeap.le_trans lG8 l10
  have l010:=AHeap.le_trans l1 lG10
  have og10:Own G10 H.length 26 [.int .i64 n,v]:=o1.le lG10
  have hl10:=l10.1
  unfold F97.B9
  refine zac og10 rfl (zab og10 rfl (zac o10 rfl (zab o10 rfl (zai (zsY (h.le l010) hg (hu.le l010) hR hdl fun G11 l11=>zax (zag (zai ?_)))))))
  have o11':=o10.le l11
  have hnx:itF f (i+1) t=nxD es (rF R) d:=by show f (itF f i t)=_;rw [← hd,hf]
  have hl11:=l11.1
  refine zaG (new:=[.int .i64 ((nxD es (rF R) d/2:Nat):Int),.bool (decide (nxD es (rF R) d%2=1))]) o11' (by simp) (by simp [Value.oneCell']) rfl fun G12 b12 o12=>?_
  have l12':=AHeap.le_trans l10 l11
  have hb12:=b12.len
  refine ⟨⟨rfl,rfl,rfl,rfl,rfl,rfl,rfl,rfl,rfl,rfl,b12.le (AHeap.le_trans lG10 l11) (by have:=lG8.1;omega),by omega,by omega,b12.own (ob8.le l12') (by have:=ob8.lt;omega),(hRw8.le l12').move fun b o _ hlt ho=>by rw [b12.same b (by omega)];exact ho,i+1,D++[dkD d],fun _=>hild',hdist',by rw [hnx];exact o12,fun hh=>by have:=(f8.bk_lt hh).2;omega,?_,(m8.le l12').old fun o ho=>by rw [b12.same bm (by omega)];exact ho,fun x hx=>?_⟩,?_⟩
  ·rw [List.range_succ,List.map_append]
   simp only [List.map_cons,List.map_nil]
   rw [← hd,show ∀ (A:List Int) (x:Int),LI (A++[x])=LI A++[.int .i64 x] from fun A x=>by simp]
   have f9:=f8.le l12'
   refine zaM f9 fun b o hb ho=>?_
   have hlt:=(f8.bk_lt hb).2
   rw [b12.same b (by omega)];exact ho
  ·rw [List.mem_append,List.mem_singleton,hm x hx]
   constructor
   ·rintro ((h|⟨j,h1,h2⟩)|h)
    ·exact .inl h
    ·exact .inr ⟨j,by omega,h2⟩
    ·exact .inr ⟨i,by omega,by rw [← hd];exact (zyM h).symm⟩
   ·rintro (h|⟨j,h1,h2⟩)
    ·exact .inl (.inl h)
    ·by_cases e2:j=i
     ·subst e2;exact .inr (by rw [hd,h2])
     ·exact .inl (.inr ⟨j,by omega,h2⟩)
  ·show 2*es.length-lenV x8'<2*es.length-lenV x10
   rw [zb0 f10.sl,zb0 f8.sl]
   simp only [List.length_map,List.length_append,List.length_range,List.length_singleton,Nat.div_one]
   omega
 ·-- back
  have hmt:MtF f t d∨∃ j,j<i∧itF f j t=d:=(hm d hdl).1 (hq.1 (by simpa using hs))
  have hsucc:2*e+(s+1)=t+1:=by omega
  unfold F97.B7
  refine f10.ints.len (zaa (fun hc=>?_) fun hc=>?_)
  ·rw [hlen] at hc
   have hi0:0<i:=by have:=of_decide_eq_true hc;omega
   have hld:=hild hi0
   have hper:=hp.walk htl hld hi0 hdist (by rw [← hd];exact hmt)
   unfold F97.B6
   refine hRw.push hG6 (fun b hb=>by rw [hA'];omega) f10 (by omega) fun v' G7 ot7 nb7 len7 hR7=>?_
   have k7:∀ b o,b<H2.length∨b=bb→G6[b]?=some (some o)→G7[b]?=some (some o):=by
    intro b o hb ho
    refine ot7 b o (fun hv=>?_) ho
    obtain ⟨vs,_,_,q3,_⟩:=hRw
    have:=(q3 b hv).1
    rw [hA'] at this;omega
   unfold F97.B5
   rw [zad (by omega) (by omega)]
   refine ⟨⟨rfl,rfl,rfl,rfl,rfl,rfl,rfl,rfl,⟨by have:=lG6.1;omega,fun b o ho=>k7 b o (.inl (by have:=zaj ho;omega)) (lG6.2 b o ho)⟩,by omega,k7 bb _ (.inr rfl) ob,s+1,D,by omega,by omega,hM.old fun o ho=>k7 bm o (.inl (by omega)) ho,?_,fun x hx=>?_⟩,by simp;omega⟩
   ·rw [hsucc,zmb (by rw [← hf];exact hld) (by rw [← hf];exact hper),← hf];exact hR7
   ·rw [hsucc,hm x hx,MtF.succ,zsK hp htl hper]
  ·rw [hlen] at hc
   have hi0:i=0:=by have:=of_decide_eq_false hc;omega
   subst hi0
   have hmm:MtF f t t:=by
    rcases hmt with h|⟨j,hj,_⟩
    ·rwa [show d=t from hd] at h
    ·omega
   have hnl:¬ LdF f t:=fun hl=>MtF.lead.1 hl hmm
   unfold F97.B5
   rw [zad (by omega) (by omega)]
   refine ⟨⟨rfl,rfl,rfl,rfl,rfl,rfl,rfl,rfl,lG6,by omega,ob,s+1,D,by omega,by omega,hM,?_,fun x hx=>?_⟩,by simp;omega⟩
   ·rw [hsucc,zpy (by rw [← hf];exact hnl)]
    exact hRw.mono (fun _ h=>h) hG6
   ·rw [hsucc,hm x hx,hp.mt_lead htl hnl]
    exact ⟨fun h=>h.elim id fun ⟨j,hj,_⟩=>absurd hj (by omega),.inl⟩
end Go.Proofs
namespace Go.Proofs
open Go.Abs

variable {H G:AHeap} {v u f w:Value} {l m R:List Int} {es fs:List (Int × Int)} {K:Value→AHeap→Prop} {n:Int}

noncomputable def rtCode (n:Int) (es:List (Int × Int)) (R:List Int):Int:=if IsG n es then (if RotP n R then 0 else 2) else 1
theorem zgP (h:rtCode n es R=0):IsG n es∧RotP n R:=by
 unfold rtCode at h
 by_cases hg:IsG n es
 ·rw [if_pos hg] at h
  by_cases hs:RotP n R
  ·exact ⟨hg,hs⟩
  ·rw [if_neg hs] at h;cases h
 ·rw [if_neg hg] at h;cases h
theorem zfI (h:Edges H v es) (hl:es.length≤1048576) (hu:Ints H u R) (hRl:R.length≤1048576) (k:∀ G,H.le G→K (.int .i64 (rtCode n es R)) G) :
 AC Tryz.prog T0 98 [.agg ⟨[.int .i64 n,v]⟩,u] H K:=by
 apply F98.ac
 unfold F98.B12
 refine zaf (zak (zah h)) fun H1 l1 n1 o1=>?_
 unfold F98.B11
 refine zac o1 rfl (zab o1 rfl (zbp (h.le l1) hl fun H2 l2=>zai ?_))
 have l12:=AHeap.le_trans l1 l2
 have o2:=o1.le l2
 unfold rtCode at k
 by_cases hg:¬ IsG n es
 ·rw [decide_eq_false hg]
  refine zay rfl ?_
  unfold F98.B10
  have:=k H2 l12
  rw [if_neg hg] at this;exact this
 have hg:=Classical.not_not.1 hg
 rw [decide_eq_true hg]
 refine zaz rfl ?_
 rw [if_pos hg] at k
 have hu2:=hu.le l12
 unfold F98.B9
 refine hu2.len (zac o2 rfl (zaa (fun hb=>?_) fun hb=>?_))
 ·unfold F98.B8
  have:=k H2 l12
  rw [if_neg fun h:RotP n R=>bne_iff_ne.1 hb h.1] at this;exact this
 have hlen:=bne_eq_false_iff_eq.1 hb
 unfold F98.B7 F98.L2
 refine ⟨fun x1 x5 G=>u=x1∧H2=G∧∃ i:Nat,x5=i∧i≤R.length∧∀ j,j<i→0≤R.getD j 0∧R.getD j 0≤1,fun _ x5 _=>R.length-x5.toNat,⟨rfl,rfl,0,rfl,by omega,fun j hj=>absurd hj (by omega)⟩,?_⟩
 rintro x1 x5 G ⟨rfl,rfl,i,rfl,hi,hno⟩
 unfold F98.B6
 refine hu2.len (zaa (fun hb=>?_) fun hb=>?_)
 ·have hlt:i<R.length:=by have:=of_decide_eq_true hb;omega
  unfold F98.B5
  refine hu2.rd (by omega) (by omega) (zb5 (zai ?_))
  rw [Int.toNat_natCast]
  refine zaa (fun hc=>?_) fun hc=>?_
  ·unfold F98.B4
   have:=k H2 l12
   rw [if_neg fun h:RotP n R=>?_] at this
   ·exact this
   ·have h2:=h.2 (R.getD i 0) (by rw [zae hlt];exact List.getElem_mem _)
    rw [decide_eq_true h2] at hc;cases hc
  ·have h2:=of_decide_eq_true (show decide (0≤R.getD i 0∧R.getD i 0≤1)=true by simpa using hc)
   unfold F98.B3
   rw [zad (by omega) (by omega)]
   refine ⟨⟨rfl,rfl,i+1,by omega,by omega,fun j hj=>?_⟩,by simp;omega⟩
   by_cases e:j=i
   ·subst e;exact h2
   ·exact hno j (by omega)
 ·have hie:i=R.length:=by have:=of_decide_eq_false hb;omega
  subst hie
  unfold F98.B1
  have:=k H2 l12
  rw [if_pos ⟨hlen,fun x hx=>by
   obtain ⟨j,hj,rfl⟩:=List.getElem_of_mem hx
   have:=hno j hj
   rwa [zae hj] at this⟩] at this
  exact this
noncomputable def fcList (n:Int) (es:List (Int × Int)) (R:List Int):List (List Int):=if rtCode n es R=0 then facL es (rF R) else []
theorem znh (h:Edges H v es) (hl:es.length≤1048576) (hu:Ints H u R) (hRl:R.length≤1048576) (k:∀ v' G,H.le G→RowsF (fun b=>H.length≤b) G.length G v' (fcList n es R)→K (.tuple ⟨[v',.int .i64 (rtCode n es R)]⟩) G) :
 AC Tryz.prog T0 34 [.agg ⟨[.int .i64 n,v]⟩,u] H K:=by
 apply F34.ac
 unfold F34.B5
 refine zaf (zak (zah h)) fun H1 l1 n1 o1=>?_
 unfold F34.B4
 refine zac o1 rfl (zab o1 rfl (zfI (h.le l1) hl (hu.le l1) hRl fun H2 l2=>zag ?_))
 have l12:=AHeap.le_trans l1 l2
 unfold fcList at k
 unfold F34.B3
 refine zaa (fun hs=>?_) fun hs=>?_
 ·rw [if_neg (bne_iff_ne.1 hs)] at k
  unfold F34.B2
  exact k _ _ l12 .nil
 ·have h0:=bne_eq_false_iff_eq.1 hs
  obtain ⟨hg,hR⟩:=zgP h0
  rw [if_pos h0,h0] at k
  unfold F34.B1
  exact zac (o1.le l2) rfl (zab (o1.le l2) rfl (zfO (h.le l12) hg (hu.le l12) hR fun v' G lG hF=>k _ _ (AHeap.le_trans l12 lG) (hF.mono (fun b hb=>by have:=l12.1;omega) (Nat.le_refl _))))
theorem zz3:rtCode n es R=if IsG n es then (if decide (RotP n R)=true then 0 else 2) else 1:=by
 unfold rtCode
 by_cases h:RotP n R <;> simp [h]
theorem zmN (h:Edges H v es) (hl:es.length≤1048576) (hu:Ints H u R) (hRl:R.length≤1048576) (k:∀ v' G,H.le G→RowsF (fun b=>H.length≤b) G.length G v' (fcList n es R)→K (.tuple ⟨[v',.int .i64 (rtCode n es R)]⟩) G) :
 AC Tryz.prog T0 33 [.agg ⟨[.int .i64 n,v]⟩,u] H K:=by
 apply F33.ac
 unfold F33.B5
 refine zaf (zak (zah h)) fun H1 l1 n1 o1=>?_
 unfold F33.B4
 refine zac o1 rfl (zab o1 rfl (zac o1 rfl (zab o1 rfl (zpq (n:=n) (hu.le l1) hRl (zah h) fun H2 l2=>zai ⟨l2,zaA (h.le (AHeap.le_trans l1 l2)) hl fun H3 l3=>zag ?_⟩))))
 rw [← zz3]
 have l23:=AHeap.le_trans l2 l3
 have l13:=AHeap.le_trans l1 l23
 unfold fcList at k
 unfold F33.B3
 refine zaa (fun hs=>?_) fun hs=>?_
 ·rw [if_neg (bne_iff_ne.1 hs)] at k
  unfold F33.B2
  exact k _ _ l13 .nil
 ·have h0:=bne_eq_false_iff_eq.1 hs
  obtain ⟨hg,hR⟩:=zgP h0
  rw [if_pos h0,h0] at k
  unfold F33.B1
  exact zac (o1.le l23) rfl (zab (o1.le l23) rfl (zpn (h.le l13) hg (hu.le l13) hR fun v' G lG hF=>k _ _ (AHeap.le_trans l13 lG) (hF.mono (fun b hb=>by have:=l13.1;omega) (Nat.le_refl _))))
theorem zsj (hg:IsG n es) {r:Nat→Nat}:IntKind.i64.wrap (Int.tdiv (IntKind.i64.wrap ((IntKind.i64.wrap ((IntKind.i64.wrap (2-n))+(es.length:Int)))-((facL es r).length:Int))) 2)=gnI n es r:=by
 have h30:es.length≤30:=by have:=hg.ed.len;have:=hg.ed.hi;omega
 have n0:=hg.ed.lo;have n1:=hg.ed.hi
 have hf:=znr (es:=es) (r:=r)
 rw [show IntKind.i64.wrap (2-n)=2-n from zad (by omega) (by omega),show IntKind.i64.wrap (2-n+(es.length:Int))=2-n+(es.length:Int) from zad (by omega) (by omega),
  show IntKind.i64.wrap (2-n+(es.length:Int)-((facL es r).length:Int))=2-n+(es.length:Int)-((facL es r).length:Int) from zad (by omega) (by omega)]
 unfold gnI
 have hb:=Int.tdiv_eq_ediv (a:=2-n+(es.length:Int)-((facL es r).length:Int)) (b:=2)
 have:-100≤Int.tdiv (2-n+(es.length:Int)-((facL es r).length:Int)) 2∧Int.tdiv (2-n+(es.length:Int)-((facL es r).length:Int)) 2≤100:=by
  have hs2:Int.sign 2=1:=rfl
  rw [hb,hs2];split <;> omega
 exact zad (by omega) (by omega)
theorem ziI (h:Edges H v es) (hg:IsG n es) (hu:Ints H u R) (hR:RotP n R) (k:∀ G,H.le G→K (.int .i64 (gnI n es (rF R))) G) :
 AC Tryz.prog T0 103 [.agg ⟨[.int .i64 n,v]⟩,u] H K:=by
 apply F103.ac
 unfold F103.B2
 refine zaf (zak (zah h)) fun H1 l1 n1 o1=>?_
 unfold F103.B1
 refine zac o1 rfl (zab o1 rfl ((h.le l1).len (zac o1 rfl (zab o1 rfl (zfO (h.le l1) hg (hu.le l1) hR fun v' G lG hF=>⟨lG,hF.len ?_⟩)))))
 rw [zsj hg]
 exact k G (AHeap.le_trans l1 lG)
theorem zpk (h:Edges H v es) (hg:IsG n es) (hu:Ints H u R) (hR:RotP n R) (k:∀ G,H.le G→K (.int .i64 (gnI n es (rF R))) G) :
 AC Tryz.prog T0 101 [.agg ⟨[.int .i64 n,v]⟩,u] H K:=by
 apply F101.ac
 unfold F101.B2
 refine zaf (zak (zah h)) fun H1 l1 n1 o1=>?_
 unfold F101.B1
 refine zac o1 rfl (zab o1 rfl (zac o1 rfl (zab o1 rfl (zbe (h.le l1) (zag ⟨AHeap.le_refl _,zpn (h.le l1) hg (hu.le l1) hR fun v' G lG hF=>⟨lG,zkt hF (zag ⟨AHeap.le_refl _,?_⟩)⟩⟩)))))
 rw [zsj hg]
 exact k G (AHeap.le_trans l1 lG)
noncomputable def geCode (n:Int) (es:List (Int × Int)) (R:List Int):Int:=if rtCode n es R=0 then (if (sidesL es n.toNat).length=1 then 0 else 5) else rtCode n es R
noncomputable def geVal (n:Int) (es:List (Int × Int)) (R:List Int):Int:=if geCode n es R=0 then gnI n es (rF R) else 0
theorem zmG (h:Edges H v es) (hl:es.length≤1048576) (hu:Ints H u R) (hRl:R.length≤1048576) (k:∀ G,H.le G→K (.tuple ⟨[.int .i64 (geVal n es R),.int .i64 (geCode n es R)]⟩) G) :
 AC Tryz.prog T0 39 [.agg ⟨[.int .i64 n,v]⟩,u] H K:=by
 apply F39.ac
 unfold F39.B7
 refine zaf (zak (zah h)) fun H1 l1 n1 o1=>?_
 unfold F39.B6
 refine zac o1 rfl (zab o1 rfl (zfI (h.le l1) hl (hu.le l1) hRl fun H2 l2=>zag ?_))
 have l12:=AHeap.le_trans l1 l2
 have o2:=o1.le l2
 unfold geVal geCode at k
 unfold F39.B5
 refine zaa (fun hs=>?_) fun hs=>?_
 ·rw [if_neg (bne_iff_ne.1 hs),if_neg (bne_iff_ne.1 hs)] at k
  unfold F39.B4
  exact k _ l12
 ·have h0:=bne_eq_false_iff_eq.1 hs
  obtain ⟨hg,hR⟩:=zgP h0
  rw [if_pos h0] at k
  unfold F39.B3
  refine zac o2 rfl (zab o2 rfl (zcu (h.le l12) hg fun H3 l3=>zai ?_))
  have l13:=AHeap.le_trans l12 l3
  have o3:=o2.le l3
  by_cases hc:(sidesL es n.toNat).length=1
  ·rw [decide_eq_true hc]
   rw [if_pos hc,if_pos rfl] at k
   refine zaz rfl ?_
   unfold F39.B1
   exact zac o3 rfl (zab o3 rfl (ziI (h.le l13) hg (hu.le l13) hR fun G lG=>zag (k G (AHeap.le_trans l13 lG))))
  ·rw [decide_eq_false hc]
   rw [if_neg hc,if_neg (by decide)] at k
   refine zay rfl ?_
   unfold F39.B2
   exact k _ l13
theorem zhE (h:Edges H v es) (hl:es.length≤1048576) (hu:Ints H u R) (hRl:R.length≤1048576) (k:∀ G,H.le G→K (.tuple ⟨[.int .i64 (geVal n es R),.int .i64 (geCode n es R)]⟩) G) :
 AC Tryz.prog T0 38 [.agg ⟨[.int .i64 n,v]⟩,u] H K:=by
 apply F38.ac
 unfold F38.B7
 refine zaf (zak (zah h)) fun H1 l1 n1 o1=>?_
 unfold F38.B6
 refine zac o1 rfl (zab o1 rfl (zac o1 rfl (zab o1 rfl (zpq (n:=n) (hu.le l1) hRl (zah h) fun H2 l2=>zai ⟨l2,zaA (h.le (AHeap.le_trans l1 l2)) hl fun H3 l3=>zag ?_⟩))))
 rw [← zz3]
 have l23:=AHeap.le_trans l2 l3
 have l13:=AHeap.le_trans l1 l23
 have o3:=o1.le l23
 unfold geVal geCode at k
 unfold F38.B5
 refine zaa (fun hs=>?_) fun hs=>?_
 ·rw [if_neg (bne_iff_ne.1 hs),if_neg (bne_iff_ne.1 hs)] at k
  unfold F38.B4
  exact k _ l13
 ·have h0:=bne_eq_false_iff_eq.1 hs
  obtain ⟨hg,hR⟩:=zgP h0
  rw [if_pos h0] at k
  unfold F38.B3
  refine zac o3 rfl (zab o3 rfl (zfJ (h.le l13) hg fun H4 l4=>zai ?_))
  have l14:=AHeap.le_trans l13 l4
  have o4:=o3.le l4
  by_cases hc:(sidesL es n.toNat).length=1
  ·rw [decide_eq_true hc]
   rw [if_pos hc,if_pos rfl] at k
   refine zaz rfl ?_
   unfold F38.B1
   exact zac o4 rfl (zab o4 rfl (zpk (h.le l14) hg (hu.le l14) hR fun G lG=>zag (k G (AHeap.le_trans l14 lG))))
  ·rw [decide_eq_false hc]
   rw [if_neg hc,if_neg (by decide)] at k
   refine zay rfl ?_
   unfold F38.B2
   exact k _ l14
noncomputable def lgCode (n:Int) (es:List (Int × Int)):Int:=if conCode n es=0 then (if n>10 then 3 else 0) else conCode n es
noncomputable def lgVal (n:Int) (es:List (Int × Int)):Int:=if lgCode n es=0 then lgTo n es (2^n.toNat) else 0
theorem zum {s N:Nat}:bitR (N+1) s=bitR N s++[if s.testBit N then 1 else 0]:=by
 unfold bitR
 rw [List.range_succ,List.map_append];rfl
theorem zpj {a b:Nat} (h:a≤b):2^a≤2^b:=Nat.pow_le_pow_right (by omega) h
theorem zr7 {c:Int} (h:conCode n es=c) (h0:c≠0):lgCode n es=c∧lgVal n es=0:=by
 have h1:lgCode n es=c:=by unfold lgCode;rw [h,if_neg h0]
 exact ⟨h1,by unfold lgVal;rw [h1,if_neg h0]⟩
theorem zpF {k:Nat} (h:k<63):IntKind.i64.wrap (1*2^(min k 64))=((2^k:Nat):Int):=by
 have h2:2^k≤2^62:=zpj (by omega)
 rw [Nat.min_eq_left (by omega),Int.one_mul,show ((2:Int)^k)=((2^k:Nat):Int) by simp]
 generalize 2^k=q at h2 ⊢
 exact zad (by omega) (by omega)
theorem zps {s j:Nat} (hs:s<2^64):IntKind.i64.wrap ((BitVec.ofInt 64 (Int.fdiv ((s:Nat):Int) (2^(min j 64)))&&&BitVec.ofInt 64 1).toNat:Int)=if s.testBit j then 1 else 0:=by
 have h2:=zk7 (s:=s) hs (i:=(j:Int)) (by omega)
 rw [Int.toNat_natCast] at h2
 obtain ⟨x,hx⟩:∃ x,x=(BitVec.ofInt 64 (Int.fdiv ((s:Nat):Int) (2^(min j 64)))&&&BitVec.ofInt 64 1).toNat:=⟨_,rfl⟩
 rw [← hx] at h2 ⊢
 have hx1:x≤1:=by
  rw [hx,BitVec.toNat_and]
  exact Nat.le_trans Nat.and_le_right (by decide)
 rw [zbh (by omega)] at h2
 rw [zad (by omega) (by omega),← h2]
 by_cases h:x=1
 ·subst h;rfl
 ·obtain rfl:x=0:=by omega
  rfl
theorem znq (h:Edges H v es) (hl:es.length≤1048576) (k:∀ G,H.le G→K (.tuple ⟨[.int .i64 (lgVal n es),.int .i64 (lgCode n es)]⟩) G) :
 AC Tryz.prog T0 42 [.agg ⟨[.int .i64 n,v]⟩] H K:=by
 apply F42.ac
 unfold F42.B20
 refine zaf (zak (zah h)) fun H1 l1 n1 o1=>?_
 unfold F42.B19
 refine zac o1 rfl (zab o1 rfl (zbp (h.le l1) hl fun H2 l2=>zai ?_))
 have l12:=AHeap.le_trans l1 l2
 have o2:=o1.le l2
 by_cases hg:¬ IsG n es
 ·rw [decide_eq_false hg]
  refine zay rfl ?_
  unfold F42.B14
  obtain ⟨q1,q2⟩:=zr7 (n:=n) (es:=es) (c:=1) (by unfold conCode;rw [if_neg hg]) (by decide)
  rw [q1,q2] at k
  exact k H2 l12
 have hg:=Classical.not_not.1 hg
 rw [decide_eq_true hg]
 refine zaz rfl ?_
 unfold F42.B18
 refine zac o2 rfl (zab o2 rfl (zcu (h.le l12) hg fun H3 l3=>zai ?_))
 have l13:=AHeap.le_trans l12 l3
 have o3:=o2.le l3
 by_cases hc:¬ (sidesL es n.toNat).length=1
 ·rw [decide_eq_false hc]
  refine zay rfl ?_
  unfold F42.B15
  obtain ⟨q1,q2⟩:=zr7 (n:=n) (es:=es) (c:=5) (by unfold conCode;rw [if_pos hg,if_neg hc]) (by decide)
  rw [q1,q2] at k
  exact k H3 l13
 have hc:=Classical.not_not.1 hc
 rw [decide_eq_true hc]
 refine zaz rfl ?_
 have h0:conCode n es=0:=by unfold conCode;rw [if_pos hg,if_pos hc]
 unfold lgVal lgCode at k
 rw [if_pos h0] at k
 unfold F42.B17
 refine zac o3 rfl (zaa (fun hb=>?_) fun hb=>?_)
 ·unfold F42.B16
  rw [if_pos (of_decide_eq_true hb),if_neg (by decide)] at k
  exact k H3 l13
 have hn:=of_decide_eq_false hb
 rw [if_neg hn,if_pos rfl,zsp hg] at k
 have n0:=hg.ed.lo
 obtain ⟨N,rfl⟩:∃ N:Nat,n=N:=⟨n.toNat,by omega⟩
 have hNr:(Int.toNat (N:Int))=N:=Int.toNat_natCast N
 rw [hNr] at k
 have hpow:2^(N-1)≤2^9:=zpj (by omega)
 unfold F42.B13
 refine zac o3 rfl ?_
 unfold F42.B12 F42.L2
 refine ⟨fun x1 x4 x5 G=>H.length=x1∧H1.le G∧∃ s:Nat,x5=s∧s≤2^(N-1)∧x4=lgTo (N:Int) es s,fun _ _ x5 _=>2^(N-1)-x5.toNat,⟨rfl,AHeap.le_trans l2 l3,0,rfl,Nat.zero_le _,rfl⟩,?_⟩
 rintro x1 x4 x5 G ⟨rfl,lG,s,rfl,hs,rfl⟩
 have oG:=o1.le lG
 have l0G:=AHeap.le_trans l1 lG
 have e1:IntKind.u64.wrap (IntKind.i64.wrap ((N:Int)-1))=((N-1:Nat):Int):=by
  rw [zad (by omega) (by omega),show (N:Int)-1=((N-1:Nat):Int) by omega,zbh (by omega)]
 have e2:IntKind.i64.wrap (1*2^(min (Int.toNat ((N-1:Nat):Int)) 64))=((2^(N-1):Nat):Int):=by
  rw [Int.toNat_natCast];exact zpF (by omega)
 unfold F42.B11
 refine zac oG rfl ?_
 rw [e1,e2]
 refine ⟨by omega,zaa (fun hb=>?_) fun hb=>?_⟩
 ·have hlt:s<2^(N-1):=by have:=of_decide_eq_true hb;omega
  unfold F42.B10
  refine zaf rfl fun G2 l2' n2' o2'=>?_
  have lG2:=AHeap.le_trans lG l2'
  unfold F42.B9 F42.L5
  refine ⟨fun x1 x4 x5 x6 x7 G'=>H.length=x1∧lgTo (N:Int) es s=x4∧(s:Int)=x5∧H1.le G'∧G.length≤G'.length∧∃ i:Nat,x7=i∧i≤N∧Fresh G.length G' x6 2 1 (LI (bitR i s)),fun _ _ _ _ x7 _=>N-x7.toNat,⟨rfl,rfl,rfl,lG2,l2'.1,0,rfl,by omega,.inr ⟨_,0,Nat.le_refl _,rfl,o2',rfl⟩⟩,?_⟩
  rintro x1 x4 x5 x6 x7 G3 ⟨rfl,rfl,rfl,lG3,hG3,i,rfl,hi,f6⟩
  have oG3:=o1.le lG3
  unfold F42.B8
  refine zac oG3 rfl (zaa (fun hb=>?_) fun hb=>?_)
  ·have hil:i<N:=by have:=of_decide_eq_true hb;omega
   unfold F42.B7
   rw [zbh (show i<2^64 by omega),Int.toNat_natCast,zps (by omega)]
   refine ⟨by omega,f6.sl.pushN zbl (by decide) hG3 (n:=1) (ys:=[.int .i64 (if s.testBit i then 1 else 0)]) rfl rfl (by simp [bitR];omega) (by simp) fun v3 G4 k4 _ _ f4=>?_⟩
   unfold F42.B6
   rw [zad (by omega) (by omega)]
   refine ⟨⟨rfl,rfl,rfl,k4.le lG3 (by have:=lG.1;omega),by have:=k4.len;omega,i+1,by omega,by omega,?_⟩,by simp;omega⟩
   rw [zum];simpa using f4
  ·have hie:i=N:=by have:=of_decide_eq_false hb;omega
   subst hie
   unfold F42.B4
   refine zac oG3 rfl (zab oG3 rfl (ziI (h.le (AHeap.le_trans l1 lG3)) hg f6.ints (zpp rfl) fun G4 l4=>zag ?_))
   unfold F42.B3
   rw [zad (by omega) (by omega)]
   refine ⟨⟨rfl,AHeap.le_trans lG3 l4,s+1,by omega,by omega,?_⟩,by simp;omega⟩
   rw [lgTo,hNr]
 ·have hse:s=2^(N-1):=by have:=of_decide_eq_false hb;omega
  subst hse
  unfold F42.B1
  exact k G l0G
theorem zm9 (h:Edges H v es) (hl:es.length≤1048576) (k:∀ G,H.le G→K (.tuple ⟨[.int .i64 (lgVal n es),.int .i64 (lgCode n es)]⟩) G) :
 AC Tryz.prog T0 41 [.agg ⟨[.int .i64 n,v]⟩] H K:=by
 apply F41.ac
 unfold F41.B21
 refine zaf (zak (zah h)) fun H1 l1 n1 o1=>?_
 unfold F41.B20
 refine zac o1 rfl (zab o1 rfl (zc0 (h.le l1) hl fun H2 l2=>zag ?_))
 have l12:=AHeap.le_trans l1 l2
 have o2:=o1.le l2
 unfold lgVal lgCode at k
 unfold F41.B19
 refine zaa (fun hs=>?_) fun hs=>?_
 ·rw [if_neg (bne_iff_ne.1 hs),if_neg (bne_iff_ne.1 hs)] at k
  unfold F41.B18
  exact k _ l12
 have h0:=bne_eq_false_iff_eq.1 hs
 obtain ⟨hg,hc⟩:=zdC h0
 rw [if_pos h0] at k
 unfold F41.B17
 refine zac o2 rfl (zaa (fun hb=>?_) fun hb=>?_)
 ·unfold F41.B16
  rw [if_pos (of_decide_eq_true hb),if_neg (by decide)] at k
  exact k _ l12
 have hn:=of_decide_eq_false hb
 rw [if_neg hn,if_pos rfl] at k
 have n0:=hg.ed.lo
 obtain ⟨N,rfl⟩:∃ N:Nat,n=N:=⟨n.toNat,by omega⟩
 have hNr:(Int.toNat (N:Int))=N:=Int.toNat_natCast N
 rw [hNr] at k
 have hpow:2^N≤2^10:=zpj (by omega)
 unfold F41.B15
 refine zac o2 rfl ?_
 unfold F41.B14
 refine zac o2 rfl (zaF (by omega) (by omega) (by decide) fun H3 l3 n3 o3=>?_)
 rw [zb3,hNr] at o3
 rw [hNr]
 have o23:=o2.le l3
 unfold F41.B13
 refine zac o23 rfl ⟨by omega,?_⟩
 rw [zbq (by omega) (by omega),hNr]
 have hH2:H1.length≤H2.length:=l2.1
 unfold F41.L2
 refine ⟨fun x1 x5 x6 x24 x25 G=>H.length=x1∧.slice (some ⟨H2.length,0,none⟩) N (N+1)=x6∧((2^N:Nat):Int)=x24∧H1.le G∧(∃ L,L.length=N∧Own G H2.length 2 (LI L))∧∃ s:Nat,x25=s∧s≤2^N∧x5=lgTo (N:Int) es s,fun _ _ _ _ x25 _=>2^N-x25.toNat,⟨rfl,rfl,rfl,AHeap.le_trans l2 l3,⟨_,List.length_replicate,o3⟩,0,rfl,Nat.zero_le _,rfl⟩,?_⟩
 rintro x1 x5 x6 x24 x25 G ⟨rfl,rfl,rfl,lG,⟨L,hL,oL⟩,s,rfl,hs,rfl⟩
 unfold F41.B12
 refine zaa (fun hb=>?_) fun hb=>?_
 ·have hlt:s<2^N:=by have:=of_decide_eq_true hb;omega
  unfold F41.B11 F41.B10
  refine zba ?_
  unfold F41.L5
  refine ⟨fun x1 x5 x6 x7 x24 x25 x29 x30 G'=>H.length=x1∧lgTo (N:Int) es s=x5∧.slice (some ⟨H2.length,0,none⟩) N (N+1)=x6∧(s:Int)=x7∧((2^N:Nat):Int)=x24∧(s:Int)=x25∧(N:Int)=x29∧H1.le G'∧∃ (i:Nat) (L:List Int),x30=i∧i≤N∧L.length=N∧Own G' H2.length 2 (LI L)∧∀ j,j<i→L.getD j 0=if s.testBit j then 1 else 0,fun _ _ _ _ _ _ _ x30 _=>N-x30.toNat,
   ⟨rfl,rfl,rfl,rfl,rfl,rfl,rfl,lG,0,L,rfl,by omega,hL,oL,fun j hj=>absurd hj (by omega)⟩,?_⟩
  clear oL hL
  rintro x1 x5 x6 x7 x24 x25 x29 x30 G3 ⟨rfl,rfl,rfl,rfl,rfl,rfl,rfl,lG3,i,L,rfl,hi,hL,oL,hbit⟩
  unfold F41.B9
  refine zaa (fun hb=>?_) fun hb=>?_
  ·have hil:i<N:=by have:=of_decide_eq_true hb;omega
   unfold F41.B8 F41.B7
   refine ⟨by omega,zan (by omega) (by omega) ?_⟩
   have hv:IntKind.i64.wrap (IntKind.u64.wrap ((BitVec.ofInt 64 (Int.fdiv ((s:Nat):Int) (2^(min (Int.toNat (i:Int)) 64)))&&&BitVec.ofInt 64 1).toNat:Int))=if s.testBit i then 1 else 0:=by
    have h1:=zps (s:=s) (j:=i) (by omega)
    have h2:=zk7 (s:=s) (by omega) (i:=(i:Int)) (by omega)
    rw [Int.toNat_natCast] at h2 ⊢
    obtain ⟨x,hx⟩:∃ x,x=(BitVec.ofInt 64 (Int.fdiv ((s:Nat):Int) (2^(min i 64)))&&&BitVec.ofInt 64 1).toNat:=⟨_,rfl⟩
    rw [← hx] at h1 h2 ⊢
    have hx1:x≤1:=by
     rw [hx,BitVec.toNat_and]
     exact Nat.le_trans Nat.and_le_right (by decide)
    rw [zbh (by omega)];exact h1
   rw [hv]
   refine zaO oL (by simp;omega) rfl fun G4 b4 o4=>?_
   rw [Int.toNat_natCast,← List.map_set] at o4
   unfold F41.B6
   rw [zad (by omega) (by omega)]
   refine ⟨⟨rfl,rfl,rfl,rfl,rfl,rfl,rfl,b4.le lG3 hH2,i+1,_,by omega,by omega,by simpa using hL,o4,fun j hj=>?_⟩,by simp;omega⟩
   by_cases e:i=j
   ·subst e;exact zao (by omega)
   ·rw [zam e];exact hbit j (by omega)
  ·have hie:i=N:=by have:=of_decide_eq_false hb;omega
   subst hie
   have hLb:L=bitR i s:=by
    apply List.ext_getElem (by simp [bitR,hL])
    intro j h1 h2
    have:=hbit j (by omega)
    rw [zae h1] at this
    rw [this];simp [bitR]
   subst hLb
   have oi:=zau (c:=i+1) oL
   rw [hL] at oi
   have oG3:=o1.le lG3
   unfold F41.B4
   refine zac oG3 rfl (zab oG3 rfl (zpk (h.le (AHeap.le_trans l1 lG3)) hg oi (zpp rfl) fun G4 l4=>zag ?_))
   unfold F41.B3
   rw [show IntKind.u64.wrap ((s:Int)+1)=((s+1:Nat):Int) by rw [show (s:Int)+1=((s+1:Nat):Int) by omega,zbh (by omega)]]
   refine ⟨⟨rfl,rfl,rfl,AHeap.le_trans lG3 l4,⟨_,hL,oL.le l4⟩,s+1,rfl,by omega,?_⟩,by simp;omega⟩
   rw [lgTo,hNr]
 ·have hse:s=2^N:=by have:=of_decide_eq_false hb;omega
  subst hse
  unfold F41.B1
  exact k G (AHeap.le_trans l1 lG)
end Go.Proofs
namespace Go.Proofs
open Go.Abs

variable {es:List (Int × Int)} {n:Int}

end Go.Proofs
namespace Go.Proofs
open Go.Abs

variable {H G B:AHeap} {v u f:Value} {l m S:List Int} {K:Value→AHeap→Prop}

theorem zsU (L:List Int) (i:Nat) (x:Int):(LI L).set i (.int .i64 x)=LI (L.set i x):=List.map_set.symm
theorem zjT (h:Ints H v l) (hl:l.length≤1000000) (k:∀ v' G,H.le G→Fresh H.length G v' 2 1 (LI (srtI l))→K v' G):AC Tryz.prog T0 147 [v] H K:=by
 apply F147.ac
 unfold F147.B14 F147.B13
 refine zaf rfl fun H1 l1 n1 o1=>?_
 unfold F147.B12 F147.L2
 refine ⟨fun x0 x3 x4 G=>v=x0∧H.le G∧∃ (i bo:Nat) (S:List Int),x4=i∧i≤l.length∧H.length≤bo∧x3=.slice (some ⟨bo,0,none⟩) S.length (S.length+1)∧Own G bo 2 (LI S)∧S.Pairwise (fun a b=>a≤b)∧S.Perm (l.take i),
  fun _ _ x4 _=>l.length-x4.toNat,⟨rfl,l1,0,H.length,[],rfl,by omega,Nat.le_refl _,rfl,o1,List.Pairwise.nil,by simp⟩,?_⟩
 rintro x0 x3 x4 G ⟨rfl,lG,i,bo,S,rfl,hi,hbo,rfl,oS,sS,pS⟩
 have hSl:S.length=i:=by have:=pS.length_eq;rw [List.length_take] at this;omega
 unfold F147.B11
 refine (h.le lG).len (zaa (fun hb=>?_) fun hb=>?_)
 rotate_left
 ·have hil:i=l.length:=by have:=of_decide_eq_false hb;omega
  subst hil
  rw [List.take_length] at pS
  unfold F147.B1
  refine k _ G lG (.inr ⟨bo,S.length,hbo,rfl,?_,?_⟩)
  ·rw [← zjl sS pS];exact oS
  ·rw [← zjl sS pS];simp
 have hil:i<l.length:=by have:=of_decide_eq_true hb;omega
 have hbl:=oS.lt
 obtain ⟨e,he⟩:∃ e,e=l.getD i 0:=⟨_,rfl⟩
 unfold F147.B10
 refine zba ?_
 unfold F147.B9
 refine (h.le lG).rd (by omega) (by omega) ?_
 rw [Int.toNat_natCast,← he]
 refine Sl.pushN (m:=H.length) zbl (by decide) (Fresh.sl (.inr ⟨bo,S.length,hbo,rfl,oS,by simp⟩)) lG.1 (n:=1) (ys:=[.int .i64 e]) rfl rfl (by simp;omega) (by simp) fun v' G3 k3 ot3 nb3 f3=>?_
 have f3:Fresh H.length G3 v' 2 1 (LI (S++[e])):=by simpa using f3
 obtain ⟨b3,hb3,rfl,o3⟩:∃ b,H.length≤b∧v'=.slice (some ⟨b,0,none⟩) (S.length+1) (S.length+1+1)∧Own G3 b 2 (LI (S++[e])):=by
  rcases f3 with ⟨h0,_⟩|⟨b,n,hb,rfl,g3,g4⟩
  ·simp at h0
  ·have hn:n=S.length+1:=by simpa using g4.symm
   subst hn
   exact ⟨b,hb,rfl,g3⟩
 have lG3:H.le G3:=k3.le lG (Nat.le_refl _)
 unfold F147.L5
 refine ⟨fun x0 x3 x4 x5 G'=>v=x0∧.slice (some ⟨b3,0,none⟩) (S.length+1) (S.length+1+1)=x3∧(i:Int)=x4∧H.le G'∧∃ (j:Nat) (g:Int),x5=j∧j≤S.length∧Own G' b3 2 (LI (S.take j++([g]++S.drop j)))∧∀ q,j≤q→q<S.length→e<S.getD q 0,
  fun _ _ _ x5 _=>x5.toNat,⟨rfl,rfl,rfl,lG3,S.length,e,rfl,Nat.le_refl _,by rw [List.take_length,List.drop_length,List.append_nil];exact o3,fun q h1 h2=>by omega⟩,?_⟩
 clear o3 f3 ot3 nb3 lG3 k3
 rintro x0 x3 x4 x5 G' ⟨rfl,rfl,rfl,lG',j,g,rfl,hj,oj,hgt⟩
 obtain ⟨T,hT⟩:∃ T,T=S.take j++([g]++S.drop j):=⟨_,rfl⟩
 have hTl:T.length=S.length+1:=by rw [hT];simp [Nat.min_eq_left hj];omega
 have hTj:∀ x,T.set j x=S.take j++([x]++S.drop j):=fun x=>by
  rw [hT,List.set_append_right _ _ (by simp;omega)]
  simp [Nat.min_eq_left hj]
 rw [← hT] at oj
 have next:(j=0∨S.getD (j-1) 0≤e)→F147.B4 K (fun z0 z3 z4 G''=>(v=z0∧H.le G''∧∃ (i bo:Nat) (S:List Int),z4=i∧i≤l.length∧H.length≤bo∧z3=.slice (some ⟨bo,0,none⟩) S.length (S.length+1)∧Own G'' bo 2 (LI S)∧S.Pairwise (fun a b=>a≤b)∧S.Perm (l.take i))∧l.length-z4.toNat<l.length-(i:Int).toNat) v (.slice (some ⟨b3,0,none⟩) (S.length+1) (S.length+1+1)) i j G':=by
  intro hst
  unfold F147.B4
  refine (h.le lG').rd (by omega) (by omega) ?_
  rw [Int.toNat_natCast,← he]
  refine zan (by omega) (by omega) (zaO oj (by simp;omega) rfl fun G5 b5 o5=>?_)
  rw [Int.toNat_natCast,zsU,hTj] at o5
  unfold F147.B3
  rw [zad (by omega) (by omega)]
  have hlen:(S.take j++([e]++S.drop j)).length=S.length+1:=by simp [Nat.min_eq_left hj];omega
  refine ⟨⟨rfl,b5.le lG' hb3,i+1,b3,_,by omega,by omega,hb3,by rw [hlen],o5,zjx sS hj hgt hst,zl5.trans ?_⟩,by omega⟩
  rw [List.take_succ_eq_append_getElem hil,he,zae hil]
  exact pS.append_right _
 unfold F147.B8
 refine zaa (fun hb=>?_) fun hb=>next (.inl (by have:=of_decide_eq_false hb;omega))
 have hj0:0<j:=by have:=of_decide_eq_true hb;omega
 have hT1:T.getD (j-1) 0=S.getD (j-1) 0:=by
  rw [hT]
  simp [List.getD,List.getElem?_append_left (show j-1<(S.take j).length by simp;omega),List.getElem?_take_of_lt (show j-1<j by omega)]
 have w1:IntKind.i64.wrap ((j:Int)-1)=((j-1:Nat):Int):=by rw [zad (by omega) (by omega)];omega
 have rdT:(LI T)[((j-1:Nat):Int).toNat]?=some (.int .i64 (S.getD (j-1) 0)):=by
  rw [Int.toNat_natCast,List.getElem?_map,List.getElem?_eq_getElem (by omega),← hT1,zae (by omega)];rfl
 rw [w1]
 refine zan (by omega) (by omega) (zac oj rdT ((h.le lG').rd (by omega) (by omega) ?_))
 rw [Int.toNat_natCast,← he]
 refine zaa (fun hq=>?_) fun hq=>next (.inr (by have:=of_decide_eq_false hq;omega))
 have hlt:e<S.getD (j-1) 0:=by have:=of_decide_eq_true hq;omega
 unfold F147.B7
 rw [w1]
 refine zan (by omega) (by omega) (zac oj rdT (zan (by omega) (by omega) (zaO oj (by simp;omega) rfl fun G6 b6 o6=>?_)))
 rw [Int.toNat_natCast,zsU,hTj] at o6
 unfold F147.B6
 rw [w1]
 refine ⟨⟨rfl,rfl,rfl,b6.le lG' hb3,j-1,S.getD (j-1) 0,rfl,by omega,?_,fun q h1 h2=>?_⟩,?_⟩
 ·have e1:S.take (j-1)++([S.getD (j-1) 0]++S.drop (j-1))=S.take j++([S.getD (j-1) 0]++S.drop j):=by
   obtain ⟨j',rfl⟩:∃ j',j=j'+1:=⟨j-1,by omega⟩
   rw [Nat.add_sub_cancel,zae (show j'<S.length by omega),List.drop_eq_getElem_cons (show j'<S.length by omega),List.take_succ_eq_append_getElem (show j'<S.length by omega),List.append_assoc]
   rfl
  rw [e1];exact o6
 ·by_cases e2:q=j-1
  ·subst e2;exact hlt
  ·exact hgt q (by omega) h2
 ·show ((j-1:Nat):Int).toNat<((j:Nat):Int).toNat
  omega
end Go.Proofs
