/- What comes in; plain rules. -/
import Derived.Test.YtngacbdogjmpaaaGreatX36P2
import Derived.ProofKit
import Derived.Laws.BitsLemmas
import Derived.Laws.Bits64
import Derived.OpenShut
set_option linter.unusedVariables false
set_option linter.unusedSimpArgs false
/- What comes in: from the model's readings to an abstract heap. -/
namespace Go.Abs
open Go.RowKit

def sz (T:TT) (t:TypeId):Nat:=match T t with|some ti=>ti.size|none=>0
def Chunked (T:TT) (Q:TypeId→List Value→Prop):List TypeId→List Value→Prop
 | [],cs=>cs=[]
 | t::ts,cs=>sz T t≤cs.length∧Q t (cs.take (sz T t))∧Chunked T Q ts (cs.drop (sz T t))
def laid (T:TT):Nat→List Field→Bool
 | _,[]=>true
 | off,f::fs=>f.offset==off&&laid T (off+sz T f.type) fs
def total (T:TT) (ts:List TypeId):Nat:=(ts.map (sz T)).sum
def supp (T:TT):Nat→TypeId→Bool
 | 0,_=>false
 | n+1,t=>match T t with
  | some ti=>match ti.desc with
   | .bool|.int _|.string=>ti.size==1
   | .slice e=>supp T n e&&sz T e != 0&&ti.size==1
   | .struct fs=>(fs.toList.all fun f=>supp T n f.type)&&laid T 0 fs.toList&&total T (fs.toList.map (·.type))==ti.size
   | .array m e=>supp T n e&&m*sz T e==ti.size
   | _=>false
  | none=>false
def AT (T:TT) (H:AHeap):Nat→TypeId→List Value→Prop
 | 0,_,_=>False
 | n+1,t,cs=>match T t with
  | some ti=>match ti.desc with
   | .bool=>∃ b,cs=[.bool b]
   | .int k=>∃ x,cs=[.int k x]∧(Lit.int k x).wf=true
   | .string=>∃ s,cs=[.string s]∧s.size≤maxLen
   | .slice e=>cs=[.slice none 0 0]∨cs=[.slice (some ⟨0,0,none⟩) 0 1]∨
    ∃ b len xs,cs=[.slice (some ⟨b,0,none⟩) len (len+1)]∧len≤maxLen∧H[b]?=some (some (.row xs e false))∧Chunked T (AT T H n) (List.replicate len e) xs
   | .struct fs=>Chunked T (AT T H n) (fs.toList.map (·.type)) cs
   | .array m e=>Chunked T (AT T H n) (List.replicate m e) cs
   | _=>False
  | none=>False
section
variable {P:Program} {T:TT} {G:Nat} {w:World} {ρ:Loc} {H:AHeap}

theorem Chunked.mono {Q Q':TypeId→List Value→Prop} (hq:∀ t cs,Q t cs→Q' t cs):∀ {ts:List TypeId} {cs:List Value},Chunked T Q ts cs→Chunked T Q' ts cs
 | [],_,h=>h
 | _::_,_,⟨h1,h2,h3⟩=>⟨h1,hq _ _ h2,Chunked.mono hq h3⟩
theorem AT.mono {H':AHeap} (hl:H.le H'):∀ {n:Nat} {t:TypeId} {cs:List Value},AT T H n t cs→AT T H' n t cs
 | 0,_,_,h=>h
 | n+1,t,cs,h=>by
  unfold AT at h ⊢
  split at h
  ·split at h
   ·exact h
   ·exact h
   ·exact h
   ·rcases h with h|h|⟨b,len,xs,h1,h2,h3,h4⟩
    ·exact .inl h
    ·exact .inr (.inl h)
    ·exact .inr (.inr ⟨b,len,xs,h1,h2,hl.2 _ _ h3,h4.mono fun _ _=>AT.mono hl⟩)
   ·exact h.mono fun _ _=>AT.mono hl
   ·exact h.mono fun _ _=>AT.mono hl
   ·exact h
  ·exact h
theorem zji {α β:Type} {f:α→Option β}:∀ {l:List α} {r:List β},l.mapM f=some r→∀ x∈l,∃ y,f x=some y
 | [],_,_,x,hx=>by cases hx
 | a::l,r,h,x,hx=>by
  simp only [List.mapM_cons,Option.bind_eq_bind,Option.bind_eq_some_iff] at h
  obtain ⟨y,hy,ys,hys,_⟩:=h
  rcases List.mem_cons.1 hx with rfl|hx
  ·exact ⟨y,hy⟩
  ·exact zji hys x hx
theorem zdU (hT:TT.ok P T) {t:TypeId} {ti:TI} (h:T t=some ti):P.cellsOf t=ti.size:=by
 obtain ⟨_,j,hj,hs,_⟩:=hT t ti h
 simp [Program.cellsOf,hj,hs]
theorem zuk {t:TypeId} {ti:TI} (h:T t=some ti):sz T t=ti.size:=by simp [sz,h]
theorem Rel.old (R:Rel T G w ρ H w) {cs:List Value} {C:Array Value} {e e':TypeId} {fr:Nat × Nat} {ti:TI} {b sh:Nat} (he:T e=some ti) (hb:w.heap[b]?=some (.cells C e' fr))
 (hc:∀ (i:Nat) v,cs[i]?=some v→v.oneCell'=true∧∃ v',C[sh+i]?=some v'∧VR ρ v v') :
 Rel T G w (ρ.upd H.length ⟨b,sh,C.size,ti.size⟩) (H++[some (.row cs e false)]) w:=by
 have hle:=R.le_upd ⟨b,sh,C.size,ti.size⟩
 have hbs:=zdf hb
 refine ⟨R.below,?_,?_,?_,?_,?_⟩
 ·intro x r h
  by_cases hx:x=H.length
  ·subst hx;rw [Loc.upd_same] at h;obtain rfl:=Option.some.inj h;simp;exact hbs
  ·rw [Loc.upd_ne _ _ hx] at h
   have:=R.dom x r h
   simp;omega
 ·intro g hg
  obtain ⟨N,s,h⟩:=R.glob g hg
  exact ⟨N,s,hle _ _ h⟩
 ·intro x cs2 e2 own hx
  by_cases hxl:x=H.length
  ·subst hxl
   simp at hx
   obtain ⟨rfl,rfl,rfl⟩:=hx
   refine ⟨_,C,e',fr,Loc.upd_same _ _ _,hb,rfl,?_,fun h=>by simp at h,ti,he,rfl⟩
   intro i v hv
   obtain ⟨h1,v',h2,h3⟩:=hc i v hv
   exact ⟨h1,v',h2,h3.mono hle⟩
  ·have hx':H[x]?=some (some (.row cs2 e2 own)):=by
    have:=zaj hx
    simp at this
    rwa [List.getElem?_append_left (by omega)] at hx
   obtain ⟨r,C2,e3,fr,h1,h2,h3,h4,h5,h6⟩:=R.row x cs2 e2 own hx'
   refine ⟨r,C2,e3,fr,hle _ _ h1,h2,h3,?_,h5,h6⟩
   intro i v hv
   obtain ⟨g1,v',g2,g3⟩:=h4 i v hv
   exact ⟨g1,v',g2,g3.mono hle⟩
 ·intro x x' o o' r r' hx hx' ho h1 h2 heq
  have hlen:=zaj hx
  have hlen':=zaj hx'
  simp at hlen hlen'
  by_cases h3:x=H.length
  ·subst h3
   simp at hx
   exact absurd hx.symm (ho _ _)
  ·rw [List.getElem?_append_left (by omega)] at hx
   rw [Loc.upd_ne _ _ h3] at h1
   have big:w.heap.size≤r.blk:=by
    cases o with
    | row cs1 e1 own=>
     cases own with
     | false=>exact absurd rfl (ho _ _)
     | true=>
      obtain ⟨r1,_,_,_,k1,_,_,_,k5,_⟩:=R.row x _ _ _ hx
      rw [h1] at k1;obtain rfl:=Option.some.inj k1
      exact (k5 rfl).2.2
    | map es cl=>
     obtain ⟨r1,k1,_,k2⟩:=R.map x _ _ hx
     rw [h1] at k1;obtain rfl:=Option.some.inj k1
     exact k2
   have:=(R.dom x r h1).2
   omega
 ·intro x es cl hx
  by_cases hxl:x=H.length
  ·subst hxl;simp at hx
  ·have hx':H[x]?=some (some (.map es cl)):=by
    have:=zaj hx
    simp at this
    rwa [List.getElem?_append_left (by omega)] at hx
   obtain ⟨r,h1,h2,h3⟩:=R.map x es cl hx'
   exact ⟨r,hle _ _ h1,h2,h3⟩
def Laid (T:TT) (G:Nat) (w:World) (ρ:Loc) (H:AHeap) (cs:List Value) (Q:AHeap→List Value→Prop):Prop:=
 ∃ ρ' H' cs',H.le H'∧ρ.le ρ'∧Rel T G w ρ' H' w∧VRs ρ' cs' cs∧(∀ v∈cs',v.oneCell'=true)∧Q H' cs'
theorem zpr {Q:AHeap→TypeId→List Value→Prop} (hm:∀ H H' t cs,H.le H'→Q H t cs→Q H' t cs) {C:TypeId→List Value→Prop}
 (one:∀ t cs,C t cs→∀ ρ H,Rel T G w ρ H w→Laid T G w ρ H cs (fun H'=>Q H' t)):∀ (ts:List TypeId) (cs:List Value),Chunked T C ts cs→∀ ρ H,Rel T G w ρ H w→
  Laid T G w ρ H cs (fun H'=>Chunked T (Q H') ts)
 | [],cs,h,ρ,H,R=>by
  simp only [Chunked] at h;subst h
  exact ⟨ρ,H,[],AHeap.le_refl _,Loc.le_refl _,R,.nil,by simp,rfl⟩
 | t::ts,cs,⟨h1,h2,h3⟩,ρ,H,R=>by
  obtain ⟨ρ1,H1,c1,a1,a2,a3,a4,a5,a6⟩:=one _ _ h2 ρ H R
  obtain ⟨ρ2,H2,c2,b1,b2,b3,b4,b5,b6⟩:=zpr hm one ts _ h3 ρ1 H1 a3
  have hl:c1.length=sz T t:=by have:=a4.length;simp at this;omega
  refine ⟨ρ2,H2,c1++c2,AHeap.le_trans a1 b1,Loc.le_trans a2 b2,b3,?_,?_,?_⟩
  ·have:=VRs.append (a4.mono b2) b4
   rwa [List.take_append_drop] at this
  ·intro v hv
   rcases List.mem_append.1 hv with hv|hv
   ·exact a5 v hv
   ·exact b5 v hv
  ·refine ⟨by simp [hl],?_,?_⟩
   ·rw [← hl,List.take_left];exact hm _ _ _ _ b1 a6
   ·rw [← hl,List.drop_left];exact b6
theorem zer {C:TypeId→List Value→Prop} (cs:List Value):∀ (fs:List Field) (off:Nat),laid T off fs=true→(∀ f∈fs,C f.type ((cs.drop f.offset).take (sz T f.type)))→
 cs.length=off+total T (fs.map (·.type))→Chunked T C (fs.map (·.type)) (cs.drop off)
 | [],off,_,_,h=>by simp [Chunked,total] at h ⊢;omega
 | f::fs,off,hl,hc,h=>by
  simp only [laid,Bool.and_eq_true,beq_iff_eq] at hl
  simp only [List.map_cons,total,List.sum_cons] at h
  refine ⟨by simp;omega,?_,?_⟩
  ·have:=hc f (by simp);rw [hl.1] at this;exact this
  ·have:=zer cs fs (off+sz T f.type) hl.2 (fun g hg=>hc g (by simp [hg])) (by simp only [total];omega)
   rwa [List.drop_drop]
theorem zeb {C:TypeId→List Value→Prop} {e:TypeId}:∀ (m:Nat) (cs:List Value),cs.length=m*sz T e→(∀ i,i<m→C e ((cs.drop (i*sz T e)).take (sz T e)))→Chunked T C (List.replicate m e) cs
 | 0,cs,h,_=>by simp at h;subst h;exact rfl
 | m+1,cs,h,hc=>by
  rw [Nat.succ_mul] at h
  refine ⟨by omega,by simpa using hc 0 (by omega),zeb m _ (by simp;omega) fun i hi=>?_⟩
  have:=hc (i+1) (by omega)
  rw [List.drop_drop,show sz T e+i*sz T e=(i+1)*sz T e by rw [Nat.succ_mul];omega]
  exact this
end
end Go.Abs
/- What comes in: the arguments. -/
namespace Go.Abs
open Go.RowKit

section
variable {Hd:Type} {enc:TypeId × Value→Hd} {P:Program} {T:TT} {G:Nat} {w:World} {ρ:Loc} {H:AHeap}

theorem Laid.same (R:Rel T G w ρ H w) {cs:List Value} {Q:AHeap→List Value→Prop} (hs:∀ v∈cs,Abs.scalar v=true) (hq:Q H cs):Laid T G w ρ H cs Q:=
 ⟨ρ,H,cs,AHeap.le_refl _,Loc.le_refl _,R,VRs.scalars (by simpa using hs),fun v hv=>zfg (hs v hv),hq⟩
theorem zxK (b o i:Nat):(⟨b,o,none⟩:Addr).add i=⟨b,o+i,none⟩:=by
 unfold Addr.add
 split
 ·rename_i h;simp_all
 ·rfl
theorem zkv {a:Addr} {n:Nat} {cs:List Value} (h:w.cells? 0 a n=some cs) (hn:0<n):a.spot=none∧∃ C e fr,w.heap[a.block]?=some (.cells C e fr)∧∀ (i:Nat) v,cs[i]?=some v→C[a.off+i]?=some v:=by
 obtain ⟨_,hl,hc⟩:=World.cells?_some h
 have h0:=hc 0 hn
 obtain ⟨v0,hv0⟩:∃ v,cs[0]?=some v:=⟨cs[0],by simp [hl,hn]⟩
 rw [hv0] at h0
 have hs:a.spot=none:=by simpa [Addr.add] using World.cell?_spot h0
 obtain ⟨b,o,sp⟩:=a
 simp only at hs;subst hs
 refine ⟨rfl,?_⟩
 have key:∀ i v,w.cell? ⟨b,o+i,none⟩=some v→∃ C e fr,w.heap[b]?=some (.cells C e fr)∧C[o+i]?=some v:=by
  intro i v hv
  unfold World.cell? at hv
  simp only at hv
  split at hv
  ·rename_i C e fr hb
   exact ⟨C,e,fr,hb,hv⟩
  ·cases hv
 have h0':w.cell? ⟨b,o+0,none⟩=some v0:=by simpa [Addr.add] using h0
 obtain ⟨C,e,fr,hb,_⟩:=key 0 v0 h0'
 refine ⟨C,e,fr,hb,fun i v hv=>?_⟩
 have hi:i<n:=by rw [← hl];exact zaj hv
 have:=hc i hi
 rw [hv] at this
 obtain ⟨C',e',fr',hb',hv'⟩:=key i v (by rw [zxK] at this;exact this)
 rw [hb] at hb'
 cases hb'
 exact hv'
theorem zgc (hT:TT.ok P T) {t:TypeId} {ti:TI} (h:T t=some ti):P.underlying t=some ti.desc:=(hT t ti h).1
theorem lay (hT:TT.ok P T):∀ (n:Nat) (t:TypeId) (cs:List Value) (x:DataW Hd × List MemPlace),DataW.trod enc P w 0 (fun _=>true) true n t cs=some x→supp T n t=true→
 ∀ ρ H,Rel T G w ρ H w→Laid T G w ρ H cs (fun H'=>AT T H' n t)
 | 0,t,cs,x,h,_,ρ,H,R=>by simp [DataW.trod] at h
 | n+1,t,cs,x,h,hs,ρ,H,R=>by
  have one:∀ t cs,(∃ x,DataW.trod enc P w 0 (fun _=>true) true n t cs=some x)∧supp T n t=true→∀ ρ H,Rel T G w ρ H w→Laid T G w ρ H cs (fun H'=>AT T H' n t):=
   fun t cs ⟨⟨x,hx⟩,hs⟩=>lay hT n t cs x hx hs
  have many:=zpr (T:=T) (G:=G) (w:=w) (Q:=fun H' t cs=>AT T H' n t cs) (fun H H' t cs hl h=>AT.mono hl h) one
  unfold supp at hs
  split at hs
  ·rename_i ti hti
   have hu:=zgc hT hti
   unfold DataW.trod at h
   rw [hu] at h
   have fin:∀ (Q:AHeap→List Value→Prop),(∀ H cs,Q H cs→AT T H (n+1) t cs)→Laid T G w ρ H cs Q→Laid T G w ρ H cs (fun H'=>AT T H' (n+1) t):=by
    rintro Q hq ⟨ρ',H',cs',a1,a2,a3,a4,a5,a6⟩
    exact ⟨ρ',H',cs',a1,a2,a3,a4,a5,hq _ _ a6⟩
   split at hs
   ·rename_i hd
    rw [hd] at h
    split at h
    all_goals first|(exfalso;simp at *;done)|skip
    rename_i b _
    refine Laid.same R (by simp [Abs.scalar]) ?_
    unfold AT;rw [hti];simp only [hd]
    exact ⟨b,rfl⟩
   ·rename_i k hd
    rw [hd] at h
    split at h
    all_goals first|(exfalso;simp at *;done)|skip
    rename_i k1 k2 z heq
    simp only [Option.some.injEq,TypeDesc.int.injEq] at heq
    subst heq
    split at h
    ·rename_i hw
     obtain ⟨rfl,hw⟩:=hw
     refine Laid.same R (by simp [Abs.scalar]) ?_
     unfold AT;rw [hti];simp only [hd]
     exact ⟨_,rfl,hw⟩
    ·cases h
   ·rename_i hd
    rw [hd] at h
    split at h
    all_goals first|(exfalso;simp at *;done)|skip
    split at h
    ·rename_i hw
     refine Laid.same R (by simp [Abs.scalar]) ?_
     unfold AT;rw [hti];simp only [hd]
     exact ⟨_,rfl,hw⟩
    ·cases h
   ·rename_i e hd
    rw [hd] at h
    simp only [Bool.and_eq_true,bne_iff_ne,beq_iff_eq] at hs
    obtain ⟨⟨hse,hz⟩,_⟩:=hs
    obtain ⟨te,hte⟩:∃ te,T e=some te:=by
     unfold sz at hz;split at hz
     ·exact ⟨_,by assumption⟩
     ·exact absurd rfl hz
    rw [zuk hte] at hz
    have hce:=zdU hT hte
    split at h
    all_goals first|(exfalso;simp at *;done)|skip
    ·refine Laid.same R (by simp [Abs.scalar]) ?_
     unfold AT;rw [hti];simp only [hd]
     exact .inl (by simp)
    ·rename_i e' a len cap heq
     simp only [Option.some.injEq,TypeDesc.slice.injEq] at heq
     subst heq
     rw [hce] at h
     simp only [if_true] at h
     split at h
     ·rename_i hb
      simp only [Option.map_eq_some_iff,Option.bind_eq_some_iff] at h
      obtain ⟨elems,he,rest,hr,_⟩:=h
      have hel:=zji he
      have hrl:=zji hr
      have each:∀ i,i<cap→∃ cs,w.cells? 0 (a.add (i*te.size)) te.size=some cs∧(i<len→∃ x,DataW.trod enc P w 0 (fun _=>true) true n e cs=some x):=by
       intro i hi
       by_cases hil:i<len
       ·obtain ⟨y,hy⟩:=hel i (by simpa using hil)
        obtain ⟨cs,hc,ht⟩:=Option.bind_eq_some_iff.1 hy
        exact ⟨cs,hc,fun _=>⟨y,ht⟩⟩
       ·obtain ⟨y,hy⟩:=hrl (i-len) (by simp;omega)
        rw [show len+(i-len)=i by omega] at hy
        obtain ⟨cs,hc,ht⟩:=Option.bind_eq_some_iff.1 hy
        exact ⟨cs,hc,fun h=>absurd h hil⟩
      by_cases hcap:cap=0
      ·subst hcap
       have hlen:len=0:=by omega
       subst hlen
       refine ⟨ρ,H,[.slice (some ⟨0,0,none⟩) 0 1],AHeap.le_refl _,Loc.le_refl _,R,?_,?_,?_⟩
       ·exact .cons _ _ _ _ (.slice _ _ _ _ _ ⟨Nat.le_refl _,fun h=>rfl,.inl ⟨rfl,rfl⟩⟩) .nil
       ·intro v hv;simp at hv;subst hv;rfl
       ·show AT T _ (n+1) t _
        unfold AT;rw [hti];simp only [hd]
        exact .inr (.inl (by simp))
      ·obtain ⟨c0,hc0,_⟩:=each 0 (by omega)
       have hc0':w.cells? 0 a te.size=some c0:=by simpa [Addr.add] using hc0
       obtain ⟨hsp,C,e',fr,hb0,_⟩:=zkv hc0' (by omega)
       obtain ⟨b,o,sp⟩:=a
       simp only at hsp hb0
       subst hsp
       have all:∀ i,i<cap→∃ cs,cs.length=te.size∧(∀ (j:Nat) v,cs[j]?=some v→C[o+i*te.size+j]?=some v)∧(i<len→∃ x,DataW.trod enc P w 0 (fun _=>true) true n e cs=some x):=by
        intro i hi
        obtain ⟨cs,hc,ht⟩:=each i hi
        rw [zxK] at hc
        obtain ⟨_,C2,e2,fr2,hb2,hat⟩:=zkv hc (by omega)
        simp only at hb2 hat
        rw [hb0] at hb2
        cases hb2
        exact ⟨cs,(World.cells?_some hc).2.1,hat,ht⟩
       have room:o+cap*te.size≤C.size:=by
        obtain ⟨cs,hl,hat,_⟩:=all (cap-1) (by omega)
        have:=zdf (hat (te.size-1) cs[te.size-1] (by simp))
        have e1:cap*te.size=(cap-1)*te.size+te.size:=by
         obtain ⟨m,rfl⟩:∃ m,cap=m+1:=⟨cap-1,by omega⟩
         simp [Nat.succ_mul]
        omega
       have hle:len*te.size≤cap*te.size:=Nat.mul_le_mul_right _ hb.2.1
       let X:=(C.toList.drop o).take (len*te.size)
       have hX:X.length=len*te.size:=by simp [X];omega
       have hch:Chunked T (fun t cs=>(∃ x,DataW.trod enc P w 0 (fun _=>true) true n t cs=some x)∧supp T n t=true) (List.replicate len e) X:=by
        refine zeb len X (by rw [zuk hte];exact hX) fun i hi=>⟨?_,hse⟩
        obtain ⟨cs,hl,hat,ht⟩:=all i (by omega)
        obtain ⟨x,hx⟩:=ht hi
        have:(X.drop (i*sz T e)).take (sz T e)=cs:=by
         rw [zuk hte]
         have hi2:(i+1)*te.size≤len*te.size:=Nat.mul_le_mul_right _ hi
         rw [Nat.succ_mul] at hi2
         apply List.ext_getElem?
         intro j
         by_cases hj:j<te.size
         ·rw [List.getElem?_take,if_pos hj,List.getElem?_drop]
          simp only [X]
          rw [List.getElem?_take,if_pos (by omega),List.getElem?_drop]
          have:=hat j cs[j] (by simp)
          rw [List.getElem?_eq_getElem (by omega:j<cs.length),← this,Array.getElem?_toList]
          congr 1;omega
         ·rw [List.getElem?_take,if_neg hj,List.getElem?_eq_none (by omega)]
        exact ⟨x,by rw [this];exact hx⟩
       obtain ⟨ρ1,H1,xs,a1,a2,a3,a4,a5,a6⟩:=many _ _ hch ρ H R
       have hxl:xs.length=len*te.size:=by rw [a4.length];exact hX
       refine ⟨ρ1.upd H1.length ⟨b,o,C.size,te.size⟩,H1++[some (.row xs e false)],[.slice (some ⟨H1.length,0,none⟩) len (len+1)],AHeap.le_trans a1 (AHeap.le_append _ _),Loc.le_trans a2 (a3.le_upd _),
        a3.old hte hb0 ?_,?_,?_,?_⟩
       ·intro i v hv
        obtain ⟨v',h1,h2⟩:=a4.get i v hv
        refine ⟨a5 v (List.mem_of_getElem? hv),v',?_,h2⟩
        have hi:=zaj hv
        simp only [X] at h1
        rw [List.getElem?_take,if_pos (by omega),List.getElem?_drop,Array.getElem?_toList] at h1
        exact h1
       ·refine .cons _ _ _ _ (.slice _ _ _ _ _ ⟨hb.2.1,fun h=>by omega,.inr ⟨_,Loc.upd_same _ _ _,rfl,by simp,.inr (by simpa using room)⟩⟩) .nil
       ·intro v hv;simp at hv;subst hv;rfl
       ·show AT T _ (n+1) t _
        unfold AT;rw [hti];simp only [hd]
        refine .inr (.inr ⟨_,len,xs,rfl,by omega,by simp,a6.mono fun _ _ h=>AT.mono (AHeap.le_append _ _) h⟩)
     ·cases h
   ·rename_i fs hd
    rw [hd] at h
    simp only [Bool.and_eq_true,List.all_eq_true,beq_iff_eq] at hs
    obtain ⟨⟨hsf,hla⟩,htot⟩:=hs
    split at h
    all_goals first|(exfalso;simp at *;done)|skip
    rename_i cs _ _ fs' heq
    simp only [Option.some.injEq,TypeDesc.struct.injEq] at heq
    subst heq
    split at h
    ·rename_i hl
     simp only [Option.map_eq_some_iff] at h
     obtain ⟨xs,hxs,_⟩:=h
     refine fin _ ?_ (many (fs.toList.map (·.type)) cs ?_ ρ H R)
     ·intro H cs h
      unfold AT;rw [hti];simp only [hd];exact h
     ·have:=zer (T:=T) (C:=fun t cs=>(∃ x,DataW.trod enc P w 0 (fun _=>true) true n t cs=some x)∧supp T n t=true) cs fs.toList 0 hla (fun f hf=>?_) (by rw [zdU hT hti] at hl;omega)
      ·simpa using this
      ·obtain ⟨y,hy⟩:=zji hxs f hf
       have hsf':=hsf f hf
       obtain ⟨tf,htf⟩:∃ tf,T f.type=some tf:=by
        cases n with
        | zero=>simp [supp] at hsf'
        | succ n=>unfold supp at hsf';split at hsf';exact ⟨_,by assumption⟩;cases hsf'
       rw [zdU hT htf] at hy
       rw [zuk htf]
       exact ⟨⟨y,hy⟩,hsf'⟩
    ·cases h
   ·rename_i m e hd
    rw [hd] at h
    simp only [Bool.and_eq_true,beq_iff_eq] at hs
    obtain ⟨hse,hm⟩:=hs
    split at h
    all_goals first|(exfalso;simp at *;done)|skip
    rename_i cs _ _ m' e' heq
    simp only [Option.some.injEq,TypeDesc.array.injEq] at heq
    obtain ⟨rfl,rfl⟩:=heq
    obtain ⟨te,hte⟩:∃ te,T e=some te:=by
     cases n with
     | zero=>simp [supp] at hse
     | succ n=>unfold supp at hse;split at hse;exact ⟨_,by assumption⟩;cases hse
    split at h
    ·rename_i hl
     simp only [Option.map_eq_some_iff] at h
     obtain ⟨xs,hxs,_⟩:=h
     refine fin _ ?_ (many (List.replicate m e) cs (zeb m cs (by rw [zdU hT hti] at hl;omega) fun i hi=>?_) ρ H R)
     ·intro H cs h
      unfold AT;rw [hti];simp only [hd];exact h
     ·obtain ⟨y,hy⟩:=zji hxs i (by simpa using hi)
      rw [zdU hT hte] at hy
      rw [zuk hte]
      exact ⟨⟨y,hy⟩,hse⟩
    ·cases h
   ·cases hs
  ·cases hs
end
end Go.Abs
/- What comes in: a law's run. -/
namespace Go.Abs
open Go.RowKit Go.ChangeShapes

def isAg (T:TT) (t:TypeId):Bool:=match T t with|some ⟨.struct _,_,_,_⟩=>true|some ⟨.array _ _,_,_,_⟩=>true|_=>false
def AV (T:TT) (H:AHeap) (t:TypeId) (v:Value):Prop:=∃ n cs,AT T H n t cs∧v=match isAg T t with|true=>.agg ⟨cs⟩|false=>cs.headD undef
def AVs (T:TT) (H:AHeap):List TypeId→List Value→Prop
 | [],vs=>vs=[]
 | t::ts,vs=>∃ v vs',vs=v::vs'∧AV T H t v∧AVs T H ts vs'
section
variable {Hd:Type} {enc:TypeId × Value→Hd} {P:Program} {T:TT} {G:Nat} {w:World} {ρ:Loc} {H:AHeap}

theorem zgl:∀ (n:Nat) (t:TypeId),supp T n t=true→supp T (n+1) t=true
 | 0,t,h=>by simp [supp] at h
 | n+1,t,h=>by
  unfold supp at h ⊢
  split at h
  ·split at h
   ·exact h
   ·exact h
   ·exact h
   ·simp only [Bool.and_eq_true] at h ⊢
    exact ⟨⟨zgl n _ h.1.1,h.1.2⟩,h.2⟩
   ·simp only [Bool.and_eq_true,List.all_eq_true] at h ⊢
    exact ⟨⟨fun f hf=>zgl n _ (h.1.1 f hf),h.1.2⟩,h.2⟩
   ·simp only [Bool.and_eq_true] at h ⊢
    exact ⟨zgl n _ h.1,h.2⟩
   ·cases h
  ·cases h
theorem zyE {n m:Nat} {t:TypeId} (hl:n≤m) (h:supp T n t=true):supp T m t=true:=by
 induction hl with
 | refl=>exact h
 | step _ ih=>exact zgl _ _ ih
theorem zs0 {v:Value} (h:∀ c,v≠.agg c):v.cells=#[v]:=by
 cases v <;> first|rfl|(exact absurd rfl (h _))
theorem AV.mono {H':AHeap} (hl:H.le H') {t:TypeId} {v:Value} (h:AV T H t v):AV T H' t v:=by
 obtain ⟨n,cs,h1,h2⟩:=h
 exact ⟨n,cs,AT.mono hl h1,h2⟩
theorem zy2 (hT:TT.ok P T) {t:TypeId} {v:Value} {d:DataW Hd} {p:List MemPlace} {base:Nat} (h:DataW.Trod enc P w 0 (fun _=>true) true t v d p) (hs:supp T 8 t=true)
 (hv:Value.okWide P w .any base t v) (R:Rel T G w ρ H w):∃ ρ' H' v',H.le H'∧ρ.le ρ'∧Rel T G w ρ' H' w∧VR ρ' v' v∧AV T H' t v':=by
 obtain ⟨fuel,hf⟩:=h
 obtain ⟨ρ',H',cs',a1,a2,a3,a4,a5,a6⟩:=lay hT (max fuel 8) t _ _ (DataW.trod_le (Nat.le_max_left _ _) hf) (zyE (Nat.le_max_right _ _) hs) ρ H R
 obtain ⟨ti,hti⟩:∃ ti,T t=some ti:=by
  unfold supp at hs;split at hs
  ·exact ⟨_,by assumption⟩
  ·cases hs
 have hu:=zgc hT hti
 unfold Value.okWide at hv
 rw [hu] at hv
 have agg:isAg T t=true→(∃ cs,v=.agg cs)→∃ ρ' H' v',H.le H'∧ρ.le ρ'∧Rel T G w ρ' H' w∧VR ρ' v' v∧AV T H' t v':=by
  rintro hag ⟨⟨cs⟩,rfl⟩
  exact ⟨ρ',H',.agg ⟨cs'⟩,a1,a2,a3,.agg _ _ a4,_,cs',a6,by rw [hag]⟩
 have flat:isAg T t=false→(∀ c,v≠.agg c)→∃ ρ' H' v',H.le H'∧ρ.le ρ'∧Rel T G w ρ' H' w∧VR ρ' v' v∧AV T H' t v':=by
  intro hag hne
  rw [zs0 hne] at a4
  cases a4 with
  | cons x _ xs _ h t=>
   cases t
   exact ⟨ρ',H',x,a1,a2,a3,h,_,[x],a6,by rw [hag];rfl⟩
 have nag:∀ d,ti.desc=d→(∀ fs,d≠.struct fs)→(∀ m e,d≠.array m e)→isAg T t=false:=by
  intro d hd h1 h2
  unfold isAg
  rw [hti]
  obtain ⟨dd,_,_,_⟩:=ti
  simp only at hd;subst hd
  cases dd <;> first|rfl|exact absurd rfl (h1 _)|exact absurd rfl (h2 _ _)
 unfold supp at hs
 rw [hti] at hs
 simp only at hs
 split at hs
 case h_5 fs hd=>
  rw [hd] at hv
  obtain ⟨cs,e,_⟩:=hv
  exact agg (by unfold isAg;rw [hti];obtain ⟨dd,_,_,_⟩:=ti;simp only at hd;subst hd;rfl) ⟨cs,e⟩
 case h_6 m e hd=>
  rw [hd] at hv
  obtain ⟨cs,e,_⟩:=hv
  exact agg (by unfold isAg;rw [hti];obtain ⟨dd,_,_,_⟩:=ti;simp only at hd;subst hd;rfl) ⟨cs,e⟩
 case h_7=>cases hs
 all_goals
  rename_i hd
  refine flat (nag _ hd (by intros;simp) (by intros;simp)) ?_
  rintro c rfl
  rw [hd] at hv
  simp only [Cell.okWide,hu,hd,Cell.ok] at hv
theorem zoC (hT:TT.ok P T) {base:Nat}:∀ (ts:List TypeId) (vs:List Value) (ds:List (DataW Hd)) (p:List MemPlace),DataW.TrodAll enc P w 0 (fun _=>true) true ts vs ds p→(ts.all fun t=>supp T 8 t)=true→
 (∀ (j:Nat) t v,ts[j]?=some t→vs[j]?=some v→Value.okWide P w .any base t v)→∀ ρ H,Rel T G w ρ H w→∃ ρ' H' vs',H.le H'∧ρ.le ρ'∧Rel T G w ρ' H' w∧VRs ρ' vs' vs∧AVs T H' ts vs'
 | [],vs,ds,p,h,_,_,ρ,H,R=>by
  have:vs=[]:=by cases vs <;> cases ds <;> simp_all [DataW.TrodAll]
  subst this
  exact ⟨ρ,H,[],AHeap.le_refl _,Loc.le_refl _,R,.nil,rfl⟩
 | t::ts,vs,ds,p,h,hs,hv,ρ,H,R=>by
  obtain ⟨v,vs,d,ds,p,q,rfl,rfl,rfl,h1,h2⟩:=trodAll_cons h
  simp only [List.all_cons,Bool.and_eq_true] at hs
  obtain ⟨ρ1,H1,v',a1,a2,a3,a4,a5⟩:=zy2 hT h1 hs.1 (hv 0 t v rfl rfl) R
  obtain ⟨ρ2,H2,vs',b1,b2,b3,b4,b5⟩:=zoC hT ts vs ds q h2 hs.2 (fun j t v h k=>hv (j+1) t v (by simpa using h) (by simpa using k)) ρ1 H1 a3
  exact ⟨ρ2,H2,v'::vs',AHeap.le_trans a1 b1,Loc.le_trans a2 b2,b3,.cons _ _ _ _ (a4.mono b2) b4,v',vs',rfl,a5.mono b1,b5⟩
theorem zyL (hT:TT.ok P T) {f:FuncId} {ts:List TypeId} (hs:(ts.all fun t=>supp T 8 t)=true) (hG:P.globals.size≤w.heap.size) (hAC:∀ H vs,AVs T H ts vs→AC P T f vs H (fun v _=>v=.bool true))
 {args:Array Value} {ds:List (DataW Hd)} {p:List MemPlace} {base:Nat} (hA:DataW.TrodAll enc P w 0 (fun _=>true) true ts args.toList ds p)
 (hv:∀ (j:Nat) t v,ts[j]?=some t→args[j]?=some v→Value.okWide P w .any base t v):Calls P f args w fun e w'=>e=.returned (.bool true)∧Below w.heap.size w w':=by
 have R0:Rel T P.globals.size w (fun g=>if g<P.globals.size then some ⟨g,0,0,0⟩ else none) (List.replicate P.globals.size none) w:=by
  have none:∀ (b:Nat) o,(List.replicate P.globals.size (none:Option AObj))[b]?=some (some o)→False:=by
   intro b o h
   rw [List.getElem?_replicate] at h
   split at h <;> simp at h
  refine ⟨Below.refl _ _,?_,?_,fun b cs e own h=>(none _ _ h).elim,fun b b' o o' r r' h=>(none _ _ h).elim,fun b es cl h=>(none _ _ h).elim⟩
  ·intro b r h
   by_cases hb:b<P.globals.size
   ·rw [if_pos hb] at h
    obtain rfl:=Option.some.inj h;simp;omega
   ·rw [if_neg hb] at h;cases h
  ·intro g hg
   exact ⟨0,0,by simp [hg]⟩
 obtain ⟨ρ,H,vs,_,_,R,hvs,hat⟩:=zoC hT ts _ ds p hA hs (fun j t v h k=>hv j t v h (by simpa using k)) _ _ R0
 have:=(hAC H vs hat).2 w w ρ args.toList R hvs
 refine this.mono fun e w' ⟨v,v',ρ',H',h1,h2,_,h3,h4⟩=>?_
 subst h2
 cases h3 with
 | scalar _ _=>exact ⟨h1,h4.below⟩
theorem zgk (hl:laidOutB P=true) {W W':World} (hb:Below W.heap.size W W'):∀ {ts:List TypeId} {vs:List Value} {ds:List (DataW Hd)} {ps:List MemPlace},(ts.all fun t=>P.readableRec t&&Nat.blt t P.types.size)=true→
 DataW.TrodAll enc P W 0 (fun _=>true) true ts vs ds ps→DataW.TrodAll enc P W' 0 (fun b=>decide (b<W.heap.size)) true ts vs ds ps
 | [],vs,ds,ps,_,h=>by cases vs <;> cases ds <;> simp_all [DataW.TrodAll]
 | t::ts,vs,ds,ps,hr,h=>by
  obtain ⟨v,vs,d,ds,p,q,rfl,rfl,rfl,h1,h2⟩:=trodAll_cons h
  simp only [List.all_cons,Bool.and_eq_true] at hr
  have lt:∀ x∈p,x.block<W.heap.size:=by obtain ⟨m,hm⟩:=h1;exact DataW.trod_lt m _ _ _ hm
  exact ⟨p,q,Below.trod hl hr.1.1 (Nat.le_of_ble_eq_true hr.1.2) h1 hb lt,zgk hl hb hr.2 h2,rfl⟩
end
end Go.Abs
/- Plain rules for the printed blocks: lists in the abstract heap. -/
namespace Go.Abs
open Go.RowKit

theorem zaa {b:Bool} {A B:Prop} (h1:b=true→A) (h2:b=false→B):pif b A B:=by
 cases b
 ·exact h2 rfl
 ·exact h1 rfl
theorem zay {A B:Prop} {b:Bool} (hb:b=true) (h:A):pif b A B:=by subst hb;exact h
theorem zaz {A B:Prop} {b:Bool} (hb:b=false) (h:B):pif b A B:=by subst hb;exact h
theorem zad {x:Int} (h1:-9223372036854775808≤x) (h2:x≤9223372036854775807):IntKind.i64.wrap x=x:=by
 rw [IntKind.wrap_i64];omega
abbrev LI (l:List Int):List Value:=l.map (Value.int .i64)
def Ints (H:AHeap) (v:Value) (l:List Int):Prop:=
 (v=.slice none 0 0∧l=[])∨∃ a c,v=.slice (some a) l.length c∧(l=[]∨(a.spot=none∧∀ (i:Nat) x,l[i]?=some x→H.cell a.block (a.off+i)=some (.int .i64 x)))
section
variable {P:Program} {T:TT} {H H':AHeap} {v:Value} {l:List Int}

theorem zic {b o:Nat} {u:Value} {K:Value→Prop} (hc:H.cell b o=some u) (h:K u):ld1 H b o K:=by unfold ld1;rw [hc];exact h
theorem zap {k:IntKind} {b o:Nat} {n:Int} {K:Int→Prop} (hc:H.cell b o=some (.int k n)) (h:K n):ldI k H b o K:=zic hc (zag h)
theorem zy1 {cs:List Value} {e:TypeId} {K:Nat→AHeap→Prop} (h1:cs.all Value.oneCell'=true) (h:K H.length (H++[some (.row cs e true)])):newK H cs e K:=zbF h1 h
theorem zzj {b o:Nat} {old:List Value} {e:TypeId} {x:Value} {K:AHeap→Prop} (hb:H[b]?=some (some (.row old e true))) (ho:o<old.length) (hx:x.oneCell'=true) (h:K (H.set b (some (.row (old.set o x) e true)))):stK H b o [x] K:=by
 unfold stK;rw [hb]
 refine ⟨by simp;omega,by simpa using hx,?_⟩
 have:old.take o++[x]++old.drop (o+[x].length)=old.set o x:=by
  rw [List.set_eq_take_append_cons_drop,if_pos ho];simp
 rw [this];exact h
theorem Ints.len (h:Ints H v l) {K:Nat→Prop} (k:K l.length):lenK v K:=by
 rcases h with ⟨rfl,rfl⟩|⟨a,c,rfl,_⟩ <;> exact k
theorem Ints.le (h:Ints H v l) (hl:H.le H'):Ints H' v l:=by
 rcases h with h|⟨a,c,h1,h2⟩
 ·exact .inl h
 ·refine .inr ⟨a,c,h1,?_⟩
  rcases h2 with h2|⟨h2,h3⟩
  ·exact .inl h2
  ·exact .inr ⟨h2,fun i x hx=>AHeap.cell_le hl (h3 i x hx)⟩
theorem Ints.idx (h:Ints H v l) {i:Int} (h0:0≤i) (h1:i<l.length):∃ b o,(∀ K:Nat→Nat→Prop,K b o→idxK v i 1 K)∧H.cell b o=some (.int .i64 (l.getD i.toNat 0)):=by
 rcases h with ⟨rfl,rfl⟩|⟨⟨b,o,sp⟩,c,rfl,h2⟩
 ·simp at h1;omega
 ·rcases h2 with rfl|⟨rfl,h3⟩
  ·simp at h1;omega
  ·have hi:i.toNat<l.length:=by omega
   refine ⟨b,o+i.toNat,fun K k=>⟨h0,h1,by simpa using k⟩,?_⟩
   have:=h3 i.toNat l[i.toNat] (by simp [hi])
   simpa [List.getD,hi] using this
theorem Ints.rd (h:Ints H v l) {i:Int} (h0:0≤i) (h1:i<l.length) {K:Int→Prop} (k:K (l.getD i.toNat 0)):idxK v i 1 (fun b o=>ldI .i64 H b o K):=by
 obtain ⟨b,o,h2,h3⟩:=h.idx h0 h1
 exact h2 _ (zap h3 k)
theorem zdo (H:AHeap) (x:Option AObj):H.le (H++[x]):=AHeap.le_append _ _
theorem zhX (H:AHeap) (x:Option AObj):(H++[x])[H.length]?=some x:=by simp
theorem zbw {b:Nat} {cs:List Value} {e:TypeId} {own:Bool} (h:H[b]?=some (some (.row cs e own))) (o:Nat):H.cell b o=cs[o]?:=by unfold AHeap.cell;rw [h]
theorem zxx (l:List Int) (i:Nat):(LI l)[i]?=l[i]?.map (Value.int .i64):=by simp
def Fresh (m:Nat) (H:AHeap) (v:Value) (e:TypeId) (z:Nat) (cs:List Value):Prop:=
 (cs=[]∧(v=.slice none 0 0∨∃ a,v=.slice (some a) 0 0))∨∃ b n,m≤b∧v=.slice (some ⟨b,0,none⟩) n (n+1)∧H[b]?=some (some (.row cs e true))∧cs.length=n*z
theorem Fresh.ints {m:Nat} {e:TypeId} (h:Fresh m H v e 1 (LI l)):Ints H v l:=by
 rcases h with ⟨h1,h2⟩|⟨b,n,_,rfl,h2,h3⟩
 ·have:l=[]:=by simpa using h1
  subst this
  rcases h2 with rfl|⟨a,rfl⟩
  ·exact .inl ⟨rfl,rfl⟩
  ·exact .inr ⟨a,0,rfl,.inl rfl⟩
 ·simp at h3
  subst h3
  exact .inr ⟨_,_,rfl,.inr ⟨rfl,fun i x hx=>by rw [zbw h2];simp [hx]⟩⟩
theorem Fresh.le {m:Nat} {e:TypeId} {z:Nat} {cs:List Value} (h:Fresh m H v e z cs) (hl:H.le H'):Fresh m H' v e z cs:=by
 rcases h with h|⟨b,n,h1,h2,h3,h4⟩
 ·exact .inl h
 ·exact .inr ⟨b,n,h1,h2,hl.2 _ _ h3,h4⟩
theorem Fresh.less {m m':Nat} {e:TypeId} {z:Nat} {cs:List Value} (h:Fresh m H v e z cs) (hm:m'≤m):Fresh m' H v e z cs:=by
 rcases h with h|⟨b,n,h1,h2,h3,h4⟩
 ·exact .inl h
 ·exact .inr ⟨b,n,by omega,h2,h3,h4⟩
theorem zgR {e:TypeId} {z n:Nat} {cs:List Value} (h:cs.length=n*z):Fresh H.length (H++[some (.row cs e true)]) (.slice (some ⟨H.length,0,none⟩) n (n+1)) e z cs:=
 .inr ⟨H.length,n,Nat.le_refl _,rfl,by simp,h⟩
theorem zAh {H0:AHeap} (h:H0.le H) {b:Nat} (hb:H0.length≤b) (x:Option AObj):H0.le (H.set b x):=by
 refine ⟨by simpa using h.1,fun c o hc=>?_⟩
 have:=zaj hc
 rw [List.getElem?_set_ne (by omega)];exact h.2 _ _ hc
theorem Fresh.push {H0:AHeap} {e:TypeId} {ti:TI} {cs ys:List Value} {x:Value} {n:Nat} {K:Value→AHeap→Prop} (he:T e=some ti) (hz:0<ti.size) (hb:ti.bytes≤1024) (hf:ti.fine=true)
 (h:Fresh H0.length H v e ti.size cs) (h0:H0.le H) (hx:cellsAt H x ti.size n ys) (hn:0<n) (hs:cs.length+ys.length≤4294967296)
 (k:∀ v' H',H0.le H'→Fresh H0.length H' v' e ti.size (cs++ys)→(∀ b o,H[b]?=some (some o)→(∀ c n,v≠.slice (some ⟨b,c,none⟩) n (n+1))→H'[b]?=some (some o))→K v' H'):apK T e H v x K:=by
 unfold apK
 rw [he]
 have hyl:=hx.1
 refine ⟨n,ys,hx,.inr ⟨hn,?_⟩⟩
 have hle:n≤n*ti.size:=Nat.le_mul_of_pos_right _ hz
 rcases h with ⟨rfl,h1⟩|⟨b,m,hm,rfl,h2,h3⟩
 ·refine ⟨0,[],H,?_,by simp at hs;omega,hb,hf,hz,k _ _ (AHeap.le_trans h0 (zdo _ _)) ?_ ?_⟩
  ·rcases h1 with rfl|⟨a,rfl⟩
   ·exact .inl ⟨rfl,rfl,rfl,rfl⟩
   ·exact .inr (.inl ⟨a,rfl,rfl,rfl,rfl⟩)
  ·rw [Nat.zero_add];exact (zgR (by simpa using hyl)).less h0.1
  ·intro b o h _
   exact (zdo _ _).2 _ _ h
 ·have hml:m≤m*ti.size:=Nat.le_mul_of_pos_right _ hz
  have hbl:=zaj h2
  refine ⟨m,cs,H.set b none,.inr (.inr ⟨b,0,m+1,cs,rfl,h2,by omega,by simp [← h3],rfl⟩),by omega,hb,hf,hz,k _ _ ?_ ?_ ?_⟩
  ·exact AHeap.le_trans (zAh h0 hm none) (zdo _ _)
  ·refine .inr ⟨H.length,m+n,by omega,rfl,?_,by simp [h3,hyl,Nat.add_mul]⟩
   have:(H.set b none).length=H.length:=by simp
   rw [← this];exact zhX _ _
  ·intro c o hc hne
   have hcl:=zaj hc
   have:b≠c:=by rintro rfl;exact hne 0 m rfl
   rw [List.getElem?_append_left (by simpa using hcl),List.getElem?_set_ne this];exact hc
theorem zcK {b n:Nat} {cs:List Value} {e:TypeId} {own:Bool} {c z:Nat} (h:H[b]?=some (some (.row cs e own))) (hn:cs.length=n*z):cellsAt H (.slice (some ⟨b,0,none⟩) n c) z n cs:=
 ⟨hn,_,_,rfl,.inr ⟨b,0,rfl,fun i u hu=>by rw [zbw h,Nat.zero_add];exact hu⟩⟩
end
end Go.Abs
/- Plain rules, continued: heaps by facts, edges, lists. -/
namespace Go.Abs
open Go.RowKit

section
variable {T:TT} {H H0 G:AHeap} {v:Value} {l:List Int}

abbrev Own (H:AHeap) (b:Nat) (e:TypeId) (cs:List Value):Prop:=H[b]?=some (some (.row cs e true))
theorem zaf {cs:List Value} {e:TypeId} {K:Nat→AHeap→Prop} (h1:cs.all Value.oneCell'=true) (h:∀ G,H.le G→G.length=H.length+1→Own G H.length e cs→K H.length G):newK H cs e K:=
 zy1 h1 (h _ (zdo _ _) (by simp) (by simp [Own]))
structure But (b:Nat) (H G:AHeap):Prop where
 len:G.length=H.length
 same:∀ c,c≠b→G[c]?=H[c]?
theorem But.le {b:Nat} (h:But b H G) (h0:H0.le H) (hb:H0.length≤b):H0.le G:=
 ⟨by rw [h.len];exact h0.1,fun c o hc=>by rw [h.same c (by have:=zaj hc;omega)];exact h0.2 _ _ hc⟩
theorem But.own {b c:Nat} (h:But b H G) {e:TypeId} {cs:List Value} (hc:Own H c e cs) (hne:c≠b):Own G c e cs:=by rw [Own,h.same c hne];exact hc
theorem But.set {b:Nat} {x:Option AObj}:But b H (H.set b x):=⟨by simp,fun c hc=>List.getElem?_set_ne (fun h=>hc h.symm)⟩
theorem zaG {b o:Nat} {old cs new:List Value} {e:TypeId} {K:AHeap→Prop} (hb:Own H b e old) (ho:o+cs.length≤old.length) (hx:∀ v∈cs,v.oneCell'=true) (hn:old.take o++cs++old.drop (o+cs.length)=new)
 (h:∀ G,But b H G→Own G b e new→K G):stK H b o cs K:=by
 unfold stK;rw [hb]
 subst hn
 exact ⟨ho,hx,h _ .set (by have:=zaj hb;simp [Own,this])⟩
theorem zaO {b o:Nat} {old:List Value} {e:TypeId} {x:Value} {K:AHeap→Prop} (hb:Own H b e old) (ho:o<old.length) (hx:x.oneCell'=true) (h:∀ G,But b H G→Own G b e (old.set o x)→K G):stK H b o [x] K:=by
 refine zaG hb (by simp;omega) (by simpa using hx) ?_ h
 rw [List.set_eq_take_append_cons_drop,if_pos ho];simp
theorem Own.cell {b o:Nat} {e:TypeId} {cs:List Value} (h:Own H b e cs):H.cell b o=cs[o]?:=zbw h o
theorem zab {b o:Nat} {e:TypeId} {cs:List Value} {u:Value} {K:Value→Prop} (h:Own H b e cs) (hu:cs[o]?=some u) (k:K u):ld1 H b o K:=zic (h.cell.trans hu) k
theorem zac {b o:Nat} {e:TypeId} {cs:List Value} {k:IntKind} {n:Int} {K:Int→Prop} (h:Own H b e cs) (hu:cs[o]?=some (.int k n)) (kk:K n):ldI k H b o K:=zap (h.cell.trans hu) kk
def Edges (H:AHeap) (v:Value) (l:List (Int × Int)):Prop:=
 (v=.slice none 0 0∧l=[])∨∃ a c,v=.slice (some a) l.length c∧(l=[]∨(a.spot=none∧∀ (i:Nat) x,l[i]?=some x→H.cell a.block (a.off+i*2)=some (.int .i64 x.1)∧H.cell a.block (a.off+i*2+1)=some (.int .i64 x.2)))
def LE (l:List (Int × Int)):List Value:=l.flatMap fun e=>[.int .i64 e.1,.int .i64 e.2]
theorem zaI:∀ (l:List (Int × Int)),(LE l).length=l.length*2
 | []=>rfl
 | x::l=>by have:=zaI l;simp [LE] at this ⊢;omega
theorem zbR (x:Int × Int) (l:List (Int × Int)):LE (x::l)=.int .i64 x.1::.int .i64 x.2::LE l:=by simp [LE]
theorem zd7 (l m:List (Int × Int)):LE (l++m)=LE l++LE m:=by simp [LE]
theorem zju:∀ (l:List (Int × Int)) (i:Nat) (x:Int × Int),l[i]?=some x→(LE l)[i*2]?=some (.int .i64 x.1)∧(LE l)[i*2+1]?=some (.int .i64 x.2)
 | [],i,x,h=>by simp at h
 | y::l,0,x,h=>by simp at h;subst h;simp [zbR]
 | y::l,i+1,x,h=>by
  have:=zju l i x (by simpa using h)
  rw [zbR,show (i+1)*2=i*2+2 by omega]
  simpa using this
theorem Edges.len {l:List (Int × Int)} (h:Edges H v l) {K:Nat→Prop} (k:K l.length):lenK v K:=by
 rcases h with ⟨rfl,rfl⟩|⟨a,c,rfl,_⟩ <;> exact k
theorem Edges.le {l:List (Int × Int)} (h:Edges H v l) (hl:H.le G):Edges G v l:=by
 rcases h with h|⟨a,c,h1,h2⟩
 ·exact .inl h
 ·refine .inr ⟨a,c,h1,?_⟩
  rcases h2 with h2|⟨h2,h3⟩
  ·exact .inl h2
  ·exact .inr ⟨h2,fun i x hx=>⟨AHeap.cell_le hl (h3 i x hx).1,AHeap.cell_le hl (h3 i x hx).2⟩⟩
theorem Edges.idx {l:List (Int × Int)} (h:Edges H v l) {i:Int} (h0:0≤i) (h1:i<l.length) :
 ∃ b o,(∀ K:Nat→Nat→Prop,K b o→idxK v i 2 K)∧H.cell b o=some (.int .i64 (l.getD i.toNat (0,0)).1)∧H.cell b (o+1)=some (.int .i64 (l.getD i.toNat (0,0)).2):=by
 rcases h with ⟨rfl,rfl⟩|⟨⟨b,o,sp⟩,c,rfl,h2⟩
 ·simp at h1;omega
 ·rcases h2 with rfl|⟨rfl,h3⟩
  ·simp at h1;omega
  ·have hi:i.toNat<l.length:=by omega
   refine ⟨b,o+i.toNat*2,fun K k=>⟨h0,h1,k⟩,?_⟩
   have:=h3 i.toNat l[i.toNat] (by simp [hi])
   simpa [List.getD,hi] using this
theorem Fresh.edges {m:Nat} {e:TypeId} {l:List (Int × Int)} (h:Fresh m H v e 2 (LE l)):Edges H v l:=by
 rcases h with ⟨h1,h2⟩|⟨b,n,_,rfl,h2,h3⟩
 ·have:l=[]:=by cases l with|nil=>rfl|cons x l=>simp [zbR] at h1
  subst this
  rcases h2 with rfl|⟨a,rfl⟩
  ·exact .inl ⟨rfl,rfl⟩
  ·exact .inr ⟨a,0,rfl,.inl rfl⟩
 ·rw [zaI] at h3
  have:n=l.length:=by omega
  subst this
  exact .inr ⟨_,_,rfl,.inr ⟨rfl,fun i x hx=>by
   have:=zju l i x hx
   rw [zbw h2,zbw h2,Nat.zero_add];exact this⟩⟩
theorem zae {α:Type} {l:List α} {n:Nat} {d:α} (h:n<l.length):l.getD n d=l[n]:=by simp [List.getD,h]
theorem zax {a b:Value} {K:Value→Value→Prop} (h:K a b):agg2 (.agg ⟨[a,b]⟩) K:=h
theorem zyV {a b c:Value} {K:Value→Value→Value→Prop} (h:K a b c):agg3 (.agg ⟨[a,b,c]⟩) K:=h
theorem zaB {a b:Value} {K:Value→Value→Prop} (h:K a b):tup2 (.tuple ⟨[a,b]⟩) K:=h
theorem zid {a b c:Value} {K:Value→Value→Value→Prop} (h:K a b c):tup3 (.tuple ⟨[a,b,c]⟩) K:=h
theorem zak {k:IntKind} {x:Int} {y:Value} (h:y.oneCell'=true):[Value.int k x,y].all Value.oneCell'=true:=by simp [h];rfl
theorem zaT {k:IntKind} {x:Int} {y:Value} (h:y.oneCell'=true):∀ v∈[Value.int k x,y],v.oneCell'=true:=List.all_eq_true.1 (zak h)
end
end Go.Abs
/- What comes in, as lists. -/
namespace Go.Abs
open Go.RowKit

def sElem (o:Option TI):Option TypeId:=match o with|some ⟨.slice e,_,_,_⟩=>some e|_=>none
def isI64 (o:Option TI):Bool:=match o with|some ⟨.int .i64,_,_,_⟩=>true|_=>false
section
variable {T:TT} {H G:AHeap} {v:Value} {n:Nat} {t:TypeId} {cs:List Value}

theorem zh3 {e:TypeId} (h:sElem (T t)=some e) (a:AT T H n t cs):cs=[.slice none 0 0]∨cs=[.slice (some ⟨0,0,none⟩) 0 1]∨
 ∃ m b len xs,cs=[.slice (some ⟨b,0,none⟩) len (len+1)]∧len≤maxLen∧H[b]?=some (some (.row xs e false))∧Chunked T (AT T H m) (List.replicate len e) xs:=by
 cases n with
 | zero=>exact a.elim
 | succ n=>
  unfold AT at a
  split at a
  ·rename_i ti hti
   rw [hti] at h
   obtain ⟨d,_,_,_⟩:=ti
   cases d <;> first|(simp [sElem] at h;done)|skip
   simp [sElem] at h
   subst h
   rcases a with a|a|⟨b,len,xs,h1,h2,h3,h4⟩
   ·exact .inl a
   ·exact .inr (.inl a)
   ·exact .inr (.inr ⟨n,b,len,xs,h1,h2,h3,h4⟩)
  ·exact a.elim
theorem zkR {v:Value} (h:AV T H t v) (hf:isAg T t=false):∃ n cs,AT T H n t cs∧v=cs.headD undef:=by
 obtain ⟨n,cs,h1,h2⟩:=h
 rw [hf] at h2
 exact ⟨n,cs,h1,h2⟩
end
end Go.Abs
/- What comes in, over a program with a table of numbers among its variables. -/
namespace Go.Abs
open Go.RowKit Go.ChangeShapes

section
variable {Hd:Type} {enc:TypeId × Value→Hd} {P:Program} {T:TT} {G:Nat} {w:World} {ρ:Loc} {H:AHeap}

end
end Go.Abs
/- A region whose order is drawn, with turning operations that do not wait for one another: schedules as trees. -/
namespace Go.Abs
open Go.RowKit

inductive Sch where
 | done
 | op (x:Nat) (need:List Nat) (s:Sch)
 | alt (s t:Sch)
def Sch.ix:Sch→List Nat
 | .done=>[]
 | .op x _ s=>x::s.ix
 | .alt s _=>s.ix
def Sch.firsts:Sch→List Nat
 | .done=>[]
 | .op x _ _=>[x]
 | .alt s t=>s.firsts++t.firsts
def retold (P:Program) (T:TT) (l:List Oper) (o:Oper) (env:Env) (H:AHeap):Prop:=
 match o.dst with
 | some t=>pif (Nat.blt t env.length) (guardK l o env fun _ b=>pif b (aOp P T o (aev env) H fun u G=>u=env.getD t undef∧G=H) (env.getD t undef=undef)) False
 | none=>False
def tellK (P:Program) (T:TT) (l:List Oper) (env:Env) (H:AHeap):List Nat→Prop→Prop
 | [],X=>X
 | y::ys,X=>retold P T l (opAt l y) env H∧tellK P T l env H ys X
def aOpsT (P:Program) (T:TT) (l:List Oper):Sch→Env→AHeap→(Env→AHeap→Prop)→Prop
 | .done,env,H,K=>K env H
 | .op x need s,env,H,K=>pif ((opAt l x).op.operands.toList.all (operandOK P.globals.size)) (guardK l (opAt l x) env fun env b=>
  pif b (aOp P T (opAt l x) (aev env) H fun v H'=>tellK P T l env H' need (aOpsT P T l s (Env.put env (opAt l x).dst v) H' K)) (aOpsT P T l s (Env.put env (opAt l x).dst undef) H K)) False
 | .alt s t,env,H,K=>aOpsT P T l s env H K∧aOpsT P T l t env H K
def sameB (a b:List Nat):Bool:=a.length==b.length&&a.all (b.contains ·)&&nodupB a&&nodupB b
def chkT (T:TT) (l:List Oper) (ms:List Nat):List Nat→List Nat→Sch→Bool
 | _,_,.done=>true
 | done,fs,.op x need s=>
  (predsOf (opAt l x)).all (done.contains ·) &&
  (!isEff (opAt l x)||(s.ix.all fun y=>fs.contains y||(predsOf (opAt l y)).any fun p=>!done.contains p)) &&
  (!isEff (opAt l x)||autoLe (opAt l x)||done.all fun y=>!heapRd T (opAt l y)||bef ms y x||need.contains y) &&
  (need.all fun y=>done.all fun z=>match (opAt l z).dst with|none=>true|some t=>!(looks l (opAt l y)).contains t||(z != y&&bef ms z y)) &&
  (isEff (opAt l x)||need.isEmpty) &&
  chkT T l ms (done++[x]) s.firsts s
 | done,fs,.alt s t=>(s.firsts++t.firsts).all (fun x=>isEff (opAt l x))&&sameB s.ix t.ix&&chkT T l ms done fs s&&chkT T l ms done fs t
section
variable {P:Program} {T:TT} {w0 w:World} {ρ:Loc} {H:AHeap} {env:Env} {a:Act} {l:List Oper} {K:Env→AHeap→Prop}

theorem SInv.perm {listed:Array Bool} {done todo todo':List Nat} {pend:List Pend} (S:SInv P T l w0 listed done todo pend env H ρ a w) (hm:∀ x,x∈todo↔x∈todo') (hn:todo'.Nodup):SInv P T l w0 listed done todo' pend env H ρ a w:=
 { S with
  all:=fun i hi=>(S.all i hi).imp id (hm i).1
  apart:=fun i h h'=>S.apart i h ((hm i).2 h')
  lt:=fun i h=>S.lt i (h.imp id (hm i).2)
  ndT:=hn }
theorem zoE {ms:List Nat} {done fs:List Nat} {x:Nat} {need:List Nat} {s:Sch} (h:chkT T l ms done fs (.op x need s)=true) :
 (∀ p∈predsOf (opAt l x),p∈done)∧(isEff (opAt l x)=true→∀ y∈s.ix,y∈fs∨∃ p∈predsOf (opAt l y),p∉done)∧
 (isEff (opAt l x)=true→autoLe (opAt l x)=true∨∀ y∈done,heapRd T (opAt l y)=false∨bef ms y x=true∨y∈need)∧
 (∀ y∈need,∀ z∈done,∀ t,(opAt l z).dst=some t→t∈looks l (opAt l y)→z≠y∧bef ms z y=true)∧(isEff (opAt l x)=false→need=[])∧chkT T l ms (done++[x]) s.firsts s=true:=by
 simp only [chkT,Bool.and_eq_true,List.all_eq_true,Bool.or_eq_true,Bool.not_eq_true',List.any_eq_true,List.contains_iff_mem] at h
 obtain ⟨⟨⟨⟨⟨h1,h2⟩,h3⟩,hw⟩,h4⟩,h5⟩:=h
 refine ⟨h1,fun he y hy=>?_,fun he=>?_,fun y hy z hz t ht hl=>?_,fun he=>?_,h5⟩
 ·rcases h2 with h2|h2
  ·rw [he] at h2;cases h2
  ·rcases h2 y hy with h|⟨p,hp,hn⟩
   ·exact .inl h
   ·exact .inr ⟨p,hp,by simpa using hn⟩
 ·rcases h3 with (h3|h3)|h3
  ·rw [he] at h3;cases h3
  ·exact .inl h3
  ·exact .inr fun y hy=>by
    rcases h3 y hy with (h|h)|h
    ·exact .inl h
    ·exact .inr (.inl h)
    ·exact .inr (.inr h)
 ·have:=hw y hy z hz
  rw [ht] at this
  simp only [Bool.or_eq_true,Bool.not_eq_true',Bool.and_eq_true,bne_iff_ne] at this
  rcases this with h|h
  ·have hc:(looks l (opAt l y)).contains t=true:=by simpa using hl
   rw [hc] at h;cases h
  ·exact h
 ·rcases h4 with h4|h4
  ·rw [he] at h4;cases h4
  ·simpa using h4
theorem zuI {a b:List Nat} (h:sameB a b=true):∀ x,x∈a↔x∈b:=by
 simp only [sameB,Bool.and_eq_true,beq_iff_eq,List.all_eq_true,List.contains_iff_mem] at h
 obtain ⟨⟨⟨h1,h2⟩,h3⟩,h4⟩:=h
 intro x
 refine ⟨h2 x,fun hx=>?_⟩
 apply Classical.byContradiction
 intro hn
 have:∀ (a b:List Nat),a.Nodup→(∀ y∈a,y∈b)→a.length≤b.length:=by
  intro a
  induction a with
  | nil=>intro b _ _;simp
  | cons y a ih=>
   intro b hnd hs
   rw [List.nodup_cons] at hnd
   have hy:=hs y (by simp)
   have:=ih (b.erase y) hnd.2 fun z hz=>by
    rw [List.mem_erase_of_ne (by rintro rfl;exact hnd.1 hz)];exact hs z (by simp [hz])
   rw [List.length_erase_of_mem hy] at this
   have:=List.length_pos_of_mem hy
   simp;omega
 have h5:=this (x::a) b (List.nodup_cons.2 ⟨hn,zcX h3⟩) fun y hy=>by
  rcases List.mem_cons.1 hy with rfl|hy
  ·exact hx
  ·exact h2 y hy
 simp at h5;omega
theorem branch {ms:List Nat} {done fs:List Nat}:∀ {S:Sch} {i:Nat},i∈S.firsts→S.ix.Nodup→chkT T l ms done fs S=true→aOpsT P T l S env H K→
 ∃ need s,chkT T l ms done fs (.op i need s)=true∧aOpsT P T l (.op i need s) env H K∧(∀ x,x∈S.ix↔x∈i::s.ix)∧(i::s.ix).Nodup∧(i::s.ix).length=S.ix.length
 | .done,i,h,_,_,_=>by simp [Sch.firsts] at h
 | .op x need s,i,h,hn,hc,hk=>by
  simp [Sch.firsts] at h;subst h
  exact ⟨need,s,hc,hk,fun x=>Iff.rfl,hn,rfl⟩
 | .alt s t,i,h,hn,hc,hk=>by
  simp only [chkT,Bool.and_eq_true] at hc
  obtain ⟨⟨⟨_,h2⟩,h3⟩,h4⟩:=hc
  have hsb:=h2
  simp only [sameB,Bool.and_eq_true,beq_iff_eq] at hsb
  simp only [Sch.firsts,List.mem_append] at h
  rcases h with h|h
  ·exact branch (S:=s) h hn h3 hk.1
  ·obtain ⟨need,u,g1,g2,g3,g4,g5⟩:=branch (S:=t) h (zcX hsb.2) h4 hk.2
   exact ⟨need,u,g1,g2,fun x=>(zuI h2 x).trans (g3 x),g4,g5.trans hsb.1.1.1.symm⟩
def EInv (l:List Oper) (done:List Nat) (pend:List Pend) (env:Env):Prop:=
 ∀ p∈pend,∀ t∈looks l (opAt l p.i),(∀ z∈done,(opAt l z).dst=some t→z≠p.i∧bef (masks l []) z p.i=true)→p.E[t]?=env[t]?
theorem EInv.old {listed:Array Bool} {done rest:List Nat} {pend:List Pend} {x:Nat} {v:Value} (S:SInv P T l w0 listed done (x::rest) pend env H ρ a w) (E:EInv l done pend env):EInv l (done++[x]) pend (Env.put env (opAt l x).dst v):=by
 intro p hp t ht hz
 by_cases hd:(opAt l x).dst=some t
 ·have:=(hz x (by simp) hd).2
  exact absurd (zbd (·∈done) l S.downD (S.pin p hp) this) fun h=>S.apart x h (by simp)
 ·rw [zcL env v hd]
  exact E p hp t ht fun z hzd=>hz z (by simp [hzd])
theorem EInv.reckon {listed:Array Bool} {done rest:List Nat} {pend:List Pend} {x:Nat} {v:Value} (S:SInv P T l w0 listed done (x::rest) pend env H ρ a w) (E:EInv l done pend env) :
 EInv l (done++[x]) (pend++[⟨x,env,v⟩]) (Env.put env (opAt l x).dst v):=by
 intro p hp t ht hz
 rcases List.mem_append.1 hp with hp|hp
 ·exact EInv.old S E p hp t ht hz
 ·simp at hp;subst hp
  by_cases hd:(opAt l x).dst=some t
  ·exact absurd rfl (hz x (by simp) hd).1
  ·rw [zcL env v hd]
theorem zms {o:Oper} {E env:Env} {X:Bool→Prop} (h:guardK l o env fun _ b=>X b) (hg:∀ t,guardTmp l o=some t→E[t]?=env[t]?):guardK l o E fun E' b=>E'=E∧X b:=by
 unfold guardK at h ⊢
 split at h
 ·exact ⟨rfl,h⟩
 ·rename_i j want hgd
  split at h
  ·exact ⟨rfl,h⟩
  ·rename_i t ht
   have e:=hg t (by unfold guardTmp;rw [hgd];exact ht)
   rw [e]
   split at h
   ·rename_i hb
    have hb':=e.trans hb
    rcases zat h with ⟨rfl,h⟩|⟨rfl,h⟩
    ·exact ⟨zdt hb',h⟩
    ·exact ⟨zdt hb',h⟩
   ·exact ⟨rfl,h⟩
   ·exact h.elim
theorem zwB {o:Oper} {ev ev':Operand→Value} {K:Value→AHeap→Prop} (hr:heapRd T o=true) (he:∀ x∈o.op.operands,ev x=ev' x) (h:aOp P T o ev H K):aOp P T o ev' H K:=by
 obtain ⟨dst,op,type,pos,after,guard⟩:=o
 cases op <;> first|(simp [heapRd] at hr;done)|skip
 case load t p=>
  simp only [aOp,aRd] at h ⊢
  rw [← he p (by simp [Op.operands])];exact h
 case convert s d x=>
  simp only [heapRd] at hr
  simp only [aOp,hr] at h ⊢
  rw [← he x (by simp [Op.operands])];exact h
 case slice t x lo hi mx=>
  simp only [aOp] at h ⊢
  have hx:=he x (by simp [Op.operands])
  cases lo <;> cases hi <;> cases mx <;> simp only [aRd,Option.map_none,Option.map_some] at h ⊢ <;> simp_all [Op.operands]
 case call c=>
  simp only [heapRd] at hr
  split at hr
  ·rename_i hc
   simp only [aOp,hc] at h ⊢
   split at h
   ·rename_i t x ht hx
    have hxs:x∈c.args:=by rw [← Array.mem_toList_iff,hx];simp
    have e:=he x (by simp [Op.operands,Call.operands];exact .inr hxs)
    rw [← e];exact h
   ·exact h.elim
  ·cases hr
theorem ztA {o:Oper} {E:Env} {v:Value} {H':AHeap} (hr:heapRd T o=true) (hok:∀ x∈o.op.operands,operandOK P.globals.size x=true) (h:retold P T l o env H') (he:∀ t∈looks l o,E[t]?=env[t]?) (hv:∀ t,o.dst=some t→t<env.length→env[t]?=some v):PF P T l o E v H':=by
 unfold retold at h
 split at h
 ·rename_i t ht
  rcases zat h with ⟨hlt,h⟩|⟨_,h⟩
  ·have hlt:t<env.length:=Nat.le_of_ble_eq_true hlt
   have hvt:=hv t ht hlt
   have e:env.getD t undef=v:=by simp [List.getD,hvt]
   rw [e] at h
   refine ⟨hok,zms ?_ fun t ht=>he t (by simp [looks,ht])⟩
   have ev:∀ x∈o.op.operands,aev env x=aev E x:=by
    intro x hx
    cases x with
    | tmp t=>
     have:=he t (List.mem_append.2 (.inl (List.mem_filterMap.2 ⟨.tmp t,by simpa using hx,rfl⟩)))
     simp [aev,List.getD,this]
    | _=>rfl
   have key:∀ b,pif b (aOp P T o (aev env) H' fun u G=>u=v∧G=H') (v=undef)→pif b (aOp P T o (aev E) H' fun u G=>u=v∧G=H') (v=undef):=by
    intro b h
    rcases zat h with ⟨rfl,h⟩|⟨rfl,h⟩
    ·exact zwB hr ev h
    ·exact h
   obtain ⟨b,hb,hg⟩:=zfx h
   exact hg _ (key b hb)
  ·exact h.elim
 ·exact h.elim
theorem SInv.turn2 (tl:Told l) {listed:Array Bool} {done rest:List Nat} {pend:List Pend} {x:Nat} (S:SInv P T l w0 listed done (x::rest) pend env H ρ a w) (hready:∀ q∈predsOf (opAt l x),listed[q]?=some true)
 {ρ':Loc} {v v':Value} {H':AHeap} {w':World} (hle:ρ.le ρ') (hv:VR ρ' v v') (R':Rel T P.globals.size w0 ρ' H' w') (hH:∀ p∈pend,PF P T l (opAt l p.i) p.E p.v H') :
 SInv P T l w0 (listed.setIfInBounds x true) (done++[x]) rest pend (Env.put env (opAt l x).dst v) H' ρ' (a.put (opAt l x).dst v') w':=by
 have hx:x<l.length:=S.lt x (.inr (by simp))
 have hxd:x∉done:=fun h=>S.apart x h (by simp)
 have hne:∀ p∈pend,p.i≠x:=fun p hp e=>hxd (e▸S.pin p hp)
 have hnd:=List.nodup_cons.1 S.ndT
 have hsz:x<listed.size:=by rw [S.size];exact hx
 have notlisted:∀ r∈pend,listed[r.i]?≠some true:=fun r hr e=>((S.exec _ (S.lt _ (.inl (S.pin r hr)))).1 e).2 r hr rfl
 have closed:∀ {i j:Nat},bef (masks l []) i j=true→(listed[j]?=some true∨j=x)→(listed[i]?=some true∨i=x):=fun hb hj=>
  zbd (fun j=>listed[j]?=some true∨j=x) l (by
   intro j hj r hr
   rcases hj with hj|rfl
   ·exact .inl (S.down j hj r hr)
   ·exact .inl (hready r hr)) hj hb
 refine ⟨?_,?_,?_,hnd.2,S.ndP,by simpa using S.size,?_,?_,?_,?_,?_,?_,R',?_,S.peff,?_,?_,?_,?_⟩
 ·intro i hi
  rcases S.all i hi with h|h
  ·exact .inl (by simp [h])
  ·rcases List.mem_cons.1 h with rfl|h
   ·exact .inl (by simp)
   ·exact .inr h
 ·intro i hi
  rcases List.mem_append.1 hi with h|h
  ·exact fun k=>S.apart i h (by simp [k])
  ·simp at h;subst h;exact hnd.1
 ·intro i hi
  rcases hi with h|h
  ·rcases List.mem_append.1 h with h|h
   ·exact S.lt i (.inl h)
   ·simp at h;subst h;exact hx
  ·exact S.lt i (.inr (by simp [h]))
 ·intro i hi
  rw [zde hsz,S.exec i hi]
  constructor
  ·rintro (rfl|⟨h1,h2⟩)
   ·exact ⟨by simp,hne⟩
   ·exact ⟨by simp [h1],h2⟩
  ·rintro ⟨h1,h2⟩
   rcases List.mem_append.1 h1 with h|h
   ·exact .inr ⟨h,h2⟩
   ·simp at h;exact .inl h
 ·intro j hj q hq
  rw [zde hsz] at hj ⊢
  rcases hj with rfl|hj
  ·exact .inr (hready q hq)
  ·exact .inr (S.down j hj q hq)
 ·intro j hj p hpj
  rcases List.mem_append.1 hj with h|h
  ·simp [S.downD j h p hpj]
  ·simp at h;subst h
   have:=hready p hpj
   have hp:=tl.preds j p hpj
   simp [((S.exec p (by omega)).1 this).1]
 ·rw [zbY,zlC];exact S.len
 ·rw [zfK];exact S.defers
 ·intro t ht
  by_cases hd:(opAt l x).dst=some t
  ·rw [hd]
   refine FitAt.put_same (by rw [zbY];exact S.len) hv fun hlt=>?_
   rw [zbY] at hlt
   exact zez env v hlt
  ·exact FitAt.put_ne ((S.fit t ht).mono hle) hd
 ·intro p hp
  simp [S.pin p hp]
 ·intro p hp t ht hlt
  rw [zbY] at hlt
  have:=(tl.tmps p.i x t (S.lt _ (.inl (S.pin p hp))) hx (hne p hp) ht).1
  rw [zcL env v this]
  exact S.pval p hp t ht hlt
 ·intro p hp
  rw [zbY];exact S.plen p hp
 ·intro p hp
  exact hH p hp
 ·intro p hp t ht
  have hpl:=S.lt _ (.inl (S.pin p hp))
  have hd:(opAt l x).dst≠some t:=by
   intro hd
   rcases (tl.tmps x p.i t hx hpl (fun e=>hne p hp e.symm) hd).2 ht with k|k
   ·exact hxd (zbd (·∈done) l S.downD (S.pin p hp) k)
   ·rcases closed k (.inr rfl) with e|e
    ·exact notlisted p hp e
    ·exact hne p hp e
  rcases S.pops p hp t ht with ⟨k,k'⟩|⟨r,k1,k2,k3,k4,k5⟩
  ·exact .inl ⟨FitAt.act_ne (k.mono hle) hd,k'⟩
  ·exact .inr ⟨r,k1,k2,k3,k4,fun h=>k5 (by rwa [zbY] at h)⟩
def Headed (l:List Oper) (S:Sch):Prop:=∀ x∈S.firsts,isEff (opAt l x)=true
theorem eagerT (tl:Told l) {listed:Array Bool}:∀ (S:Sch) (done:List Nat) (pend:List Pend) (env:Env),SInv P T l w0 listed done S.ix pend env H ρ a w→EInv l done pend env→
 chkT T l (masks l []) done S.firsts S=true→aOpsT P T l S env H K→
 ∃ done' S' pend' env',SInv P T l w0 listed done' S'.ix pend' env' H ρ a w∧EInv l done' pend' env'∧chkT T l (masks l []) done' S'.firsts S'=true∧aOpsT P T l S' env' H K∧
  Headed l S'∧S'.ix.length+pend'.length=S.ix.length+pend.length
 | .done,done,pend,env,S,E,hc,h=>⟨done,.done,pend,env,S,E,hc,h,by simp [Headed,Sch.firsts],rfl⟩
 | .alt s t,done,pend,env,S,E,hc,h=>by
  have hc':=hc
  simp only [chkT,Bool.and_eq_true,List.all_eq_true] at hc'
  exact ⟨done,.alt s t,pend,env,S,E,hc,h,hc'.1.1.1,rfl⟩
 | .op x need rest,done,pend,env,S,E,hc,h=>by
  cases he:isEff (opAt l x) with
  | true=>exact ⟨done,.op x need rest,pend,env,S,E,hc,h,by simp [Headed,Sch.firsts,he],rfl⟩
  | false=>
   obtain ⟨h1,h2,h3,_,h4,h5⟩:=zoE hc
   have hneed:=h4 he
   subst hneed
   simp only [aOpsT] at h
   rcases zat h with ⟨hok,h⟩|⟨_,h⟩
   ·have hok':∀ y∈(opAt l x).op.operands,operandOK P.globals.size y=true:=fun y hy=>List.all_eq_true.1 hok y (by simpa using hy)
    obtain ⟨b,hb,hg⟩:=zfx h
    have step:∃ v,PF P T l (opAt l x) env v H∧aOpsT P T l rest (Env.put env (opAt l x).dst v) H K:=by
     rcases zat hb with ⟨rfl,hb⟩|⟨rfl,hb⟩
     ·obtain ⟨v,k1,k2⟩:=zor he (AHeap.le_refl H) hb
      exact ⟨v,⟨hok',hg _ ⟨rfl,k2⟩⟩,k1⟩
     ·exact ⟨undef,⟨hok',hg _ ⟨rfl,rfl⟩⟩,hb⟩
    obtain ⟨v,hpf,hk⟩:=step
    obtain ⟨d',t',p',e',g1,gE,g2,g3,g4,g5⟩:=eagerT tl rest (done++[x]) (pend++[⟨x,env,v⟩]) _ (S.reckon tl h1 he hpf) (EInv.reckon S E) h5 hk
    exact ⟨d',t',p',e',g1,gE,g2,g3,g4,by simp [Sch.ix] at g5 ⊢;omega⟩
   ·exact h.elim
theorem ztl:∀ (S:Sch),S.ix=[]→aOpsT P T l S env H K→K env H
 | .done,_,h=>h
 | .op x n s,e,_=>by simp [Sch.ix] at e
 | .alt s t,e,h=>ztl s e h.1
theorem zp0 {ms done fs:List Nat}:∀ (S:Sch),Headed l S→chkT T l ms done fs S=true→∀ {i:Nat},i∈S.ix→(∀ p∈predsOf (opAt l i),p∈done)→i∈fs∨i∈S.firsts
 | .done,_,_,i,hi,_=>by simp [Sch.ix] at hi
 | .op x n s,hh,hc,i,hi,hp=>by
  rcases List.mem_cons.1 hi with rfl|hi
  ·exact .inr (by simp [Sch.firsts])
  ·rcases (zoE hc).2.1 (hh x (by simp [Sch.firsts])) i hi with h|⟨p,h1,h2⟩
   ·exact .inl h
   ·exact absurd (hp p h1) h2
 | .alt s t,hh,hc,i,hi,hp=>by
  simp only [chkT,Bool.and_eq_true] at hc
  rcases zp0 s (fun x hx=>hh x (by simp [Sch.firsts,hx])) hc.1.2 hi hp with h|h
  ·exact .inl h
  ·exact .inr (by simp [Sch.firsts,h])
theorem simT (hT:TT.ok P T) (tl:Told l) {Q:Exit→Act→World→Prop} {ρ0:Loc}
 (hq:∀ env' H' ρ' a' w',K env' H'→ρ0.le ρ'→EnvR ρ' env' a'→Rel T P.globals.size w0 ρ' H' w'→Q .normal a' w') :
 ∀ (fuel:Nat) (listed:Array Bool) (done:List Nat) (S:Sch) (pend:List Pend) (env:Env) (H:AHeap) (ρ:Loc) (a:Act) (w:World),
  SInv P T l w0 listed done S.ix pend env H ρ a w→EInv l done pend env→ρ0.le ρ→chkT T l (masks l []) done S.firsts S=true→aOpsT P T l S env H K→
  Headed l S→fuel=S.ix.length+pend.length→wpAny P .any ⟨l⟩ Q fuel listed a w:=by
 intro fuel
 induction fuel with
 | zero=>
  intro listed done U pend env H ρ a w S EI hle hc h he hf
  have h1:U.ix=[]:=List.length_eq_zero_iff.1 (by omega)
  have h:=ztl U h1 h
  rw [h1] at S
  have h2:pend=[]:=List.length_eq_zero_iff.1 (by omega)
  subst h2
  have hall:∀ i,i<l.length→listed[i]?=some true:=fun i hi=>(S.exec i hi).2 ⟨by rcases S.all i hi with h|h;exact h;simp at h,by simp⟩
  refine ⟨?_,hq env H ρ a w h hle ⟨?_,S.defers⟩ S.rel⟩
  ·cases hr:Region.ready .any ⟨l⟩ listed with
   | nil=>rfl
   | cons i r=>
    have:=zgp S.size (i:=i) (by rw [hr];simp)
    exact absurd (hall i this.1) this.2.1
  ·refine VRs.of_get (by simpa using S.len) fun t v hv=>?_
   obtain ⟨v',g1,g2⟩:=FitAt.get S.len (S.fit t (by simp)) hv
   exact ⟨v',by simpa using g1,g2⟩
 | succ fuel ih=>
  intro listed done U pend env H ρ a w S EI hle hc h he hf
  refine ⟨?_,?_⟩
  ·intro hr
   have hall:=zj6 tl S.size hr
   exfalso
   rcases pend with _|⟨p,pend⟩
   ·cases hix:U.ix with
    | nil=>rw [hix] at hf;simp at hf
    | cons x todo=>
     have hx:=S.lt x (.inr (by rw [hix];simp))
     have:=((S.exec x hx).1 (hall _ hx)).1
     exact S.apart _ this (by rw [hix];simp)
   ·have hx:=S.lt p.i (.inl (S.pin p (by simp)))
    exact ((S.exec p.i hx).1 (hall _ hx)).2 p (by simp) rfl
  ·intro i hi
   obtain ⟨hil,hnl,hpr⟩:=zgp S.size hi
   have hsz:i<listed.size:=by rw [S.size];exact hil
   have ho:(⟨l⟩:Array Oper)[i]?=some (opAt l i):=by simp [opAt,List.getD,hil]
   unfold wpOp
   simp only [ho]
   by_cases hid:i∈done
   ·-- one that was reckoned
    have:∃ p∈pend,p.i=i:=by
     by_cases hc:∃ p∈pend,p.i=i
     ·exact hc
     ·exact absurd ((S.exec i hil).2 ⟨hid,fun p hp e=>hc ⟨p,hp,e⟩⟩) hnl
    obtain ⟨p,hp,rfl⟩:=this
    have notlisted:∀ r∈pend,listed[r.i]?≠some true:=fun r hr e=>((S.exec _ (S.lt _ (.inl (S.pin r hr)))).1 e).2 r hr rfl
    have hfit:∀ t∈looks l (opAt l p.i),FitAt ρ p.E a t:=by
     intro t ht
     rcases S.pops p hp t ht with ⟨k,_⟩|⟨r,k1,k2,k3,k4,k5⟩
     ·exact k
     ·exact absurd (zbd (fun j=>listed[j]?=some true∨j=p.i) l (by
       intro j hj r hr
       rcases hj with hj|rfl
       ·exact .inl (S.down j hj r hr)
       ·exact .inl (hpr r hr)) (.inr rfl) k4) (by rintro (e|e);exact notlisted r k1 e;exact k2 e)
    obtain ⟨hok,hpf⟩:=S.pf p hp
    have hgt:∀ t,guardTmp l (opAt l p.i)=some t→FitAt ρ p.E a t:=fun t ht=>hfit t (by simp [looks,ht])
    obtain ⟨b,⟨_,hb⟩,hw⟩:=zcS (by rw [S.plen p hp];exact S.len) hgt hpf
    have hlen:fuel=U.ix.length+(pend.filter (·.i != p.i)).length:=by
     have:(pend.filter (·.i != p.i)).length+1=pend.length:=zg9 (i:=0) S.ndP hp
     omega
    rcases zat hb with ⟨rfl,hb⟩|⟨rfl,hb⟩
    ·rw [if_pos hw]
     left
     refine zeB hT S.rel (zdb S.rel.glob hok hfit) hb ?_
     rintro v v' ρ' H' w' ⟨rfl,rfl⟩ hle' hv R'
     exact ih _ done U _ env H' ρ' _ w' (S.carry tl hp hpr hle' hv R') (fun q hq=>EI q (List.mem_filter.1 hq).1) (Loc.le_trans hle hle') hc h he hlen
    ·rw [if_neg (by simp [hw])]
     exact ih _ done U _ env H ρ _ w (S.carry tl hp hpr (Loc.le_refl _) (by rw [hb];exact VR.undef _) S.rel) (fun q hq=>EI q (List.mem_filter.1 hq).1) hle hc h he hlen
   ·-- the next one that turns the heap
    have hiu:i∈U.ix:=by
     rcases S.all i hil with k|k
     ·exact absurd k hid
     ·exact k
    have hpd:∀ p∈predsOf (opAt l i),p∈done:=fun q hq=>by
     have hq4:=tl.preds i q hq
     exact ((S.exec q (by omega)).1 (hpr q hq)).1
    have hif:i∈U.firsts:=(zp0 U he hc hiu hpd).elim id id
    have hex:isEff (opAt l i)=true:=he i hif
    obtain ⟨need,rest,hc,h,hmem,hnd,hlen⟩:=branch hif S.ndT hc h
    replace S:=S.perm hmem hnd
    rw [← hlen] at hf
    obtain ⟨c1,c2,c3,cw,c4,c5⟩:=zoE hc
    ·skip
     have notlisted:∀ r∈pend,listed[r.i]?≠some true:=fun r hr e=>((S.exec _ (S.lt _ (.inl (S.pin r hr)))).1 e).2 r hr rfl
     have hne:∀ p∈pend,p.i≠i:=fun p hp e=>hid (e▸S.pin p hp)
     have closed:∀ {p:Pend},p∈pend→bef (masks l []) p.i i=true→False:=fun {p} hp hb=>by
      have:=zbd (fun j=>listed[j]?=some true∨j=i) l (by
       intro j hj r hr
       rcases hj with hj|rfl
       ·exact .inl (S.down j hj r hr)
       ·exact .inl (hpr r hr)) (.inr rfl) hb
      rcases this with e|e
      ·exact notlisted p hp e
      ·exact hne p hp e
     have hfit:∀ t∈looks l (opAt l i),FitAt ρ env a t:=by
      intro t ht
      refine S.fit t fun p hp hd=>?_
      rcases (tl.tmps p.i i t (S.lt _ (.inl (S.pin p hp))) hil (hne p hp) hd).2 ht with k|k
      ·exact closed hp k
      ·exact hid (zbd (·∈done) l S.downD (S.pin p hp) k)
     simp only [aOpsT] at h
     rcases zat h with ⟨hok,h⟩|⟨_,h⟩
     ·have hok':∀ y∈(opAt l i).op.operands,operandOK P.globals.size y=true:=fun y hy=>List.all_eq_true.1 hok y (by simpa using hy)
      obtain ⟨b,hb,hw⟩:=zcS S.len (fun t ht=>hfit t (by simp [looks,ht])) h
      have next:∀ {ρ':Loc} {v v':Value} {H':AHeap} {w':World},ρ.le ρ'→VR ρ' v v'→Rel T P.globals.size w0 ρ' H' w'→(∀ p∈pend,PF P T l (opAt l p.i) p.E p.v H')→aOpsT P T l rest (Env.put env (opAt l i).dst v) H' K→
       wpAny P .any ⟨l⟩ Q fuel (listed.setIfInBounds i true) (a.put (opAt l i).dst v') w':=by
       intro ρ' v v' H' w' hle' hv R' hH hk
       obtain ⟨d',t',p',e',g1,gE,g2,g3,g4,g5⟩:=eagerT tl rest (done++[i]) pend _ (S.turn2 tl hpr hle' hv R' hH) (EInv.old S EI) c5 hk
       exact ih _ d' t' p' e' H' ρ' _ w' g1 gE (Loc.le_trans hle hle') g2 g3 g4 (by simp at hf;omega)
      rcases zat hb with ⟨rfl,hb⟩|⟨rfl,hb⟩
      ·rw [if_pos hw]
       left
       -- what is asked of the heap
       have tell:∀ {need:List Nat} {G:AHeap} {X:Prop},tellK P T l env G need X→X∧∀ y∈need,retold P T l (opAt l y) env G:=by
        intro need G X
        induction need with
        | nil=>intro h;exact ⟨h,by simp⟩
        | cons y ys ihy=>
         intro h
         obtain ⟨g1,g2⟩:=ihy h.2
         exact ⟨g1,fun z hz=>by
          rcases List.mem_cons.1 hz with rfl|hz
          ·exact h.1
          ·exact g2 z hz⟩
       have hb':aOp P T (opAt l i) (aev env) H fun v H'=>(∀ p∈pend,PF P T l (opAt l p.i) p.E p.v H')∧aOpsT P T l rest (Env.put env (opAt l i).dst v) H' K:=by
        rcases c3 hex with k|k
        ·refine zgs hex (zp7 k hb) fun v H' hk=>⟨fun p hp=>(S.pf p hp).le (S.peff p hp) (.inl hk.1),(tell hk.2).1⟩
        ·refine zgs hex hb fun v H' hk=>⟨fun p hp=>?_,(tell hk).1⟩
         rcases k p.i (S.pin p hp) with k|k|k
         ·exact (S.pf p hp).le (S.peff p hp) (.inr k)
         ·exact (closed hp k).elim
         ·cases hr:heapRd T (opAt l p.i) with
          | false=>exact (S.pf p hp).le (S.peff p hp) (.inr hr)
          | true=>exact ztA hr (S.pf p hp).1 ((tell hk).2 _ k) (fun t ht=>EI p hp t ht fun z hz hd=>cw _ k z hz t hd ht) (S.pval p hp)
       refine zeB hT S.rel (zdb S.rel.glob hok' hfit) hb' ?_
       rintro v v' ρ' H' w' ⟨hH,hk⟩ hle' hv R'
       exact next hle' hv R' hH hk
      ·rw [if_neg (by simp [hw])]
       exact next (Loc.le_refl _) (VR.undef _) S.rel (fun p hp=>S.pf p hp) hb
     ·exact h.elim
end
end Go.Abs
/- A region whose order is drawn, by a tree: the rule. -/
namespace Go.Abs
open Go.RowKit

def altS:List Sch→Sch
 | []=>.done
 | [a]=>a
 | a::l=>.alt a (altS l)
def allS (pr:List (List Nat)) (ef:List Bool) (nd:List (List Nat)):Nat→List Nat→Sch
 | 0,_=>.done
 | k+1,done=>
  match (List.range pr.length).filter fun j=>!done.contains j&&(pr.getD j []).all (done.contains ·) with
  | rdy=>match rdy.filter fun j=>!(ef.getD j true) with
   | j::_=>.op j ((nd.getD j []).filter (done.contains ·)) (allS pr ef nd k (j::done))
   | []=>altS (rdy.map fun j=>.op j ((nd.getD j []).filter (done.contains ·)) (allS pr ef nd k (j::done)))
def drawOKT (T:TT) (l:List Oper) (S:Sch):Bool:=
 let n:=l.length
 let ms:=masks l []
 decide (S.ix.length=n)&&(List.range n).all (fun i=>S.ix.contains i)&&S.ix.all (fun x=>x<n) &&
 ((List.range n).all fun j=>(predsOf (opAt l j)).all (· < j)) &&
 ((List.range n).all fun i=>match (opAt l i).dst with
  | none=>true
  | some t=>(List.range n).all fun j=>i==j||(((opAt l j).dst != some t)&&(!(looks l (opAt l j)).contains t||bef ms i j||bef ms j i))) &&
 nodupB S.ix &&
 chkT T l ms [] S.firsts S
section
variable {P:Program} {T:TT} {w0 w:World} {ρ:Loc} {H:AHeap} {env:Env} {a:Act} {l:List Oper} {Q:Exit→Env→AHeap→Prop}

theorem zjF {S:Sch} (h:drawOKT T l S=true):Told l∧S.ix.length=l.length∧(∀ i,i<l.length→i∈S.ix)∧(∀ i∈S.ix,i<l.length)∧S.ix.Nodup∧chkT T l (masks l []) [] S.firsts S=true:=by
 simp only [drawOKT,Bool.and_eq_true,List.all_eq_true,List.mem_range,decide_eq_true_eq,List.contains_iff_mem] at h
 obtain ⟨⟨⟨⟨⟨⟨h1,h2⟩,h3⟩,h4⟩,h5⟩,h7⟩,h6⟩:=h
 refine ⟨⟨?_,?_⟩,h1,h2,h3,zcX h7,h6⟩
 ·intro j p hp
  by_cases hj:j<l.length
  ·exact h4 j hj p hp
  ·have:opAt l j=default:=by simp [opAt,List.getD,List.getElem?_eq_none (show l.length≤j by omega)]
   rw [this] at hp
   cases hp
 ·intro i j t hi hj hij hd
  have:=h5 i hi
  rw [hd] at this
  simp only [List.all_eq_true,List.mem_range,Bool.or_eq_true,Bool.and_eq_true,beq_iff_eq,bne_iff_ne,Bool.not_eq_true'] at this
  rcases this j hj with h|⟨h,k⟩
  ·exact absurd h hij
  ·refine ⟨h,fun ht=>?_⟩
   rcases k with (k|k)|k
   ·have:(looks l (opAt l j)).contains t=true:=by simpa using ht
    rw [this] at k;cases k
   ·exact .inl k
   ·exact .inr k
theorem AW.region_drawT (hT:TT.ok P T) (hm:P.follows .mixedOrders=true) {id:Nat} (U:Sch) (hc:drawOKT T l U=true) (h:aOpsT P T l U env H fun env H=>Q .normal env H) :
 AW P T (.region id ⟨l⟩ true) env H Q:=by
 intro w0 w ρ a R E
 obtain ⟨tl,h1,h2,h3,hnd,h4⟩:=zjF hc
 refine wp_region_any hm ?_
 have S:SInv P T l w0 (Array.replicate (⟨l⟩:Array Oper).size false) [] U.ix [] env H ρ a { w with drawn:=w.drawn+1 }:=by
  refine ⟨fun i hi=>.inr (h2 i hi),by simp,fun i hi=>h3 i (by simpa using hi),hnd,by simp,by simp,?_,?_,by simp,by simpa using E.vals.length,E.defers,fun t _=>E.fit t,R.drew _,by simp,by simp,by simp,by simp,by simp,by simp⟩
  ·intro i hi
   simp [hi]
  ·intro j hj
   by_cases hjl:j<l.length
   ·simp [hjl] at hj
   ·simp [hjl] at hj
 obtain ⟨d',t',p',e',g1,gE,g2,g3,g4,g5⟩:=eagerT tl U [] [] env S (fun p hp=>by cases hp) h4 h
 have hf:(⟨l⟩:Array Oper).size=t'.ix.length+p'.length:=by simp at g5 ⊢;omega
 rw [hf]
 rw [show Array.replicate (t'.ix.length+p'.length) false=Array.replicate (⟨l⟩:Array Oper).size false by rw [hf]]
 refine simT (ρ0:=ρ) hT tl ?_ _ _ d' t' p' e' H ρ a _ g1 gE (Loc.le_refl _) g2 g3 g4 rfl
 intro env' H' ρ' a' w' k1 k2 k3 k4
 exact ⟨env',H',ρ',k1,k2,k3,k4⟩
theorem zym {A K Rt:EP} {X:Nat→EP} (hT:TT.ok P T) (hm:P.follows .mixedOrders=true) {id:Nat} (U:Sch) (hc:drawOKT T l U=true) (h:∀ env H,A env H→aOpsT P T l U env H K):∀ env H,A env H→AW P T (.region id ⟨l⟩ true) env H (mkQ K X Rt):=
 fun env H ha=>AW.region_drawT hT hm U hc (h env H ha)
theorem zwF {K:EP} {U:Sch} {n:Nat} {u:Nat→Value} (hl:env.length=n) (hu:u=fun t=>env.getD t undef) (h:aOpsT P T l U (mkEnv u n 0) H K):aOpsT P T l U env H K:=by
 subst hu;rw [← ztd hl] at h;exact h
end
end Go.Abs
/- Short forms for printed blocks: slots of known kinds. -/
namespace Go.Abs
open Go.RowKit

inductive C1 where
 | i|b|s|v
inductive Kd where
 | i (k:IntKind)|b|s|v|x|p|g (q:List C1)
abbrev Sk:=List (Nat × Kd)
abbrev Pr:=AHeap→Prop
abbrev PT:=Value→AHeap→Prop
@[reducible] def CTy:List C1→Type→Type
 | [],α=>α
 | .i::q,α=>Int→CTy q α
 | .b::q,α=>Bool→CTy q α
 | .s::q,α=>ByteArray→CTy q α
 | .v::q,α=>Value→CTy q α
@[reducible] def NTy:Sk→Type→Type
 | [],α=>α
 | (_,.i _)::ks,α=>Int→NTy ks α
 | (_,.b)::ks,α=>Bool→NTy ks α
 | (_,.s)::ks,α=>ByteArray→NTy ks α
 | (_,.v)::ks,α=>Value→NTy ks α
 | (_,.x)::ks,α=>Nat→NTy ks α
 | (_,.p)::ks,α=>Nat→Nat→NTy ks α
 | (_,.g q)::ks,α=>CTy q (NTy ks α)
def rdC:(q:List C1)→{β:Type}→CTy q β→List Value→(β→Prop)→Prop
 | [],_,N,[],K=>K N
 | .i::q,_,N,.int .i64 n::l,K=>rdC q (N n) l K
 | .b::q,_,N,.bool n::l,K=>rdC q (N n) l K
 | .s::q,_,N,.string n::l,K=>rdC q (N n) l K
 | .v::q,_,N,n::l,K=>rdC q (N n) l K
 | _,_,_,_,_=>False
def rd:(ks:Sk)→{α:Type}→NTy ks α→Env→(α→Prop)→Prop
 | [],_,N,env,K=>K N
 | (t,.i k)::ks,_,N,env,K=>asI k (env.getD t undef) fun n=>rd ks (N n) env K
 | (t,.b)::ks,_,N,env,K=>asB (env.getD t undef) fun n=>rd ks (N n) env K
 | (t,.s)::ks,_,N,env,K=>asS (env.getD t undef) fun n=>rd ks (N n) env K
 | (t,.v)::ks,_,N,env,K=>rd ks (N (env.getD t undef)) env K
 | (t,.x)::ks,_,N,env,K=>asX (env.getD t undef) fun n=>rd ks (N n) env K
 | (t,.p)::ks,_,N,env,K=>asP (env.getD t undef) fun b o=>rd ks (N b o) env K
 | (t,.g q)::ks,_,N,env,K=>asAgg (env.getD t undef) fun l=>rdC q N l fun N=>rd ks N env K
def En (n:Nat) (ks:Sk) (N:NTy ks Pr):EP:=fun env H=>pif (Nat.beq env.length n) (rd ks N env fun N=>N H) False
abbrev cnd (t:Nat) (X Y:EP):EP:=fun env H=>asB (aev env (.tmp t)) fun b=>pif b (X env H) (Y env H)
@[reducible] def qC:(q:List C1)→{β:Type}→(List Value→β→Prop)→CTy q β→Prop
 | [],_,F,N=>F [] N
 | .i::q,_,F,N=>∀ n:Int,qC q (fun l=>F (.int .i64 n::l)) (N n)
 | .b::q,_,F,N=>∀ n:Bool,qC q (fun l=>F (.bool n::l)) (N n)
 | .s::q,_,F,N=>∀ n:ByteArray,qC q (fun l=>F (.string n::l)) (N n)
 | .v::q,_,F,N=>∀ n:Value,qC q (fun l=>F (n::l)) (N n)
@[reducible] def qE:(ks:Sk)→{α:Type}→(Nat→Value)→((Nat→Value)→α→Prop)→NTy ks α→Prop
 | [],_,u,F,N=>F u N
 | (t,.i k)::ks,_,u,F,N=>∀ n:Int,qE ks (upd u t (.int k n)) F (N n)
 | (t,.b)::ks,_,u,F,N=>∀ n:Bool,qE ks (upd u t (.bool n)) F (N n)
 | (t,.s)::ks,_,u,F,N=>∀ n:ByteArray,qE ks (upd u t (.string n)) F (N n)
 | (t,.v)::ks,_,u,F,N=>∀ n:Value,qE ks (upd u t n) F (N n)
 | (t,.x)::ks,_,u,F,N=>∀ n:Nat,qE ks (upd u t (.pointer (some ⟨n,0,none⟩))) F (N n)
 | (t,.p)::ks,_,u,F,N=>∀ b o:Nat,qE ks (upd u t (.pointer (some ⟨b,o,none⟩))) F (N b o)
 | (t,.g q)::ks,_,u,F,N=>qC q (fun l N=>qE ks (upd u t (.agg ⟨l⟩)) F N) N
theorem zsO:∀ (q:List C1) {β:Type} {N:CTy q β} {l:List Value} {K:β→Prop} {F:List Value→β→Prop},rdC q N l K→qC q F N→∃ N',K N'∧F l N'
 | [],_,N,[],K,F,h,hq=>⟨N,h,hq⟩
 | .i::q,_,N,.int .i64 n::l,K,F,h,hq=>zsO q (F:=fun l=>F (.int .i64 n::l)) h (hq n)
 | .b::q,_,N,.bool n::l,K,F,h,hq=>zsO q (F:=fun l=>F (.bool n::l)) h (hq n)
 | .s::q,_,N,.string n::l,K,F,h,hq=>zsO q (F:=fun l=>F (.string n::l)) h (hq n)
 | .v::q,_,N,n::l,K,F,h,hq=>zsO q (F:=fun l=>F (n::l)) h (hq n)
theorem rd_q {env:Env} {u:Nat→Value} (hu:u=fun t=>env.getD t undef):∀ (ks:Sk) {α:Type} {N:NTy ks α} {K:α→Prop} {F:(Nat→Value)→α→Prop},rd ks N env K→qE ks u F N→∃ N',K N'∧F u N'
 | [],_,N,K,F,h,hq=>⟨N,h,hq⟩
 | (t,.i k)::ks,_,N,K,F,h,hq=>by
  obtain ⟨n,e,h⟩:=zfu h
  have hq:=hq n
  rw [zhl (by rw [hu];exact e)] at hq
  exact rd_q hu ks h hq
 | (t,.b)::ks,_,N,K,F,h,hq=>by
  obtain ⟨n,e,h⟩:=zc9 h
  have hq:=hq n
  rw [zhl (by rw [hu];exact e)] at hq
  exact rd_q hu ks h hq
 | (t,.s)::ks,_,N,K,F,h,hq=>by
  obtain ⟨n,e,h⟩:=zdA h
  have hq:=hq n
  rw [zhl (by rw [hu];exact e)] at hq
  exact rd_q hu ks h hq
 | (t,.v)::ks,_,N,K,F,h,hq=>by
  have hq:=hq (env.getD t undef)
  rw [zhl (by rw [hu])] at hq
  exact rd_q hu ks h hq
 | (t,.x)::ks,_,N,K,F,h,hq=>by
  obtain ⟨n,e,h⟩:=zp8 h
  have hq:=hq n
  rw [zhl (by rw [hu];exact e)] at hq
  exact rd_q hu ks h hq
 | (t,.p)::ks,_,N,K,F,h,hq=>by
  obtain ⟨b,o,e,h⟩:=zbS h
  have hq:=hq b o
  rw [zhl (by rw [hu];exact e)] at hq
  exact rd_q hu ks h hq
 | (t,.g q)::ks,_,N,K,F,h,hq=>by
  obtain ⟨l,e,h⟩:=zbD h
  obtain ⟨N',h,hq⟩:=zsO q h hq
  rw [zhl (by rw [hu];exact e)] at hq
  exact rd_q hu ks h hq
section
variable {P:Program} {T:TT} {K Rt:EP} {X:Nat→EP} {n:Nat} {ks:Sk} {N:NTy ks Pr} {o:List Oper}
@[reducible] def QB (P:Program) (T:TT) (n:Nat) (o:List Oper) (K:EP) (ks:Sk) (N:NTy ks Pr):Prop:=∀ u,qE ks u (fun u N=>∀ H,aOps P T o o (mkEnv u n 0) H K=N H) N
@[reducible] def QD (P:Program) (T:TT) (n:Nat) (o:List Oper) (τ:List (Nat × Bool)) (K:EP) (ks:Sk) (N:NTy ks Pr):Prop:=∀ u,qE ks u (fun u N=>∀ H,aOpsD P T o (opsOf o τ) (mkEnv u n 0) H K=N H) N
@[reducible] def QT (P:Program) (T:TT) (n:Nat) (o:List Oper) (τ:Sch) (K:EP) (ks:Sk) (N:NTy ks Pr):Prop:=∀ u,qE ks u (fun u N=>∀ H,aOpsT P T o τ (mkEnv u n 0) H K=N H) N
theorem zyz {Q:(Nat→Value)→AHeap→Prop} (h:∀ u,qE ks u (fun u N=>∀ H,Q u H=N H) N) {env:Env} {H:AHeap} (he:En n ks N env H):env.length=n∧Q (fun t=>env.getD t undef) H:=by
 obtain ⟨hl,he⟩:=lenE he
 obtain ⟨N',h1,h2⟩:=rd_q rfl ks he (h _)
 exact ⟨hl,(h2 H).mpr h1⟩
theorem rB (hT:TT.ok P T) {id:Nat} (h:QB P T n o K ks N):∀ env H,En n ks N env H→AW P T (.region id ⟨o⟩ false) env H (mkQ K X Rt):=
 zvv hT fun env H he=>by obtain ⟨hl,hq⟩:=zyz h he;exact zyt hl rfl hq
theorem rD (hT:TT.ok P T) (hm:P.follows .mixedOrders=true) {id:Nat} (τ:List (Nat × Bool)) (hc:drawOK T o τ=true) (h:QD P T n o τ K ks N):∀ env H,En n ks N env H→AW P T (.region id ⟨o⟩ true) env H (mkQ K X Rt):=
 zzU hT hm τ hc fun env H he=>by obtain ⟨hl,hq⟩:=zyz h he;exact zvb hl rfl hq
theorem rT (hT:TT.ok P T) (hm:P.follows .mixedOrders=true) {id:Nat} (τ:Sch) (hc:drawOKT T o τ=true) (h:QT P T n o τ K ks N):∀ env H,En n ks N env H→AW P T (.region id ⟨o⟩ true) env H (mkQ K X Rt):=
 zym hT hm τ hc fun env H he=>by obtain ⟨hl,hq⟩:=zyz h he;exact zwF hl rfl hq
end

@[reducible] def TC:List C1→Type→Type
 | [],β=>β
 | .i::q,β=>Int × TC q β
 | .b::q,β=>Bool × TC q β
 | .s::q,β=>ByteArray × TC q β
 | .v::q,β=>Value × TC q β
@[reducible] def Tu:Sk→Type
 | []=>Unit
 | (_,.i _)::ks=>Int × Tu ks
 | (_,.b)::ks=>Bool × Tu ks
 | (_,.s)::ks=>ByteArray × Tu ks
 | (_,.v)::ks=>Value × Tu ks
 | (_,.x)::ks=>Nat × Tu ks
 | (_,.p)::ks=>Nat × Nat × Tu ks
 | (_,.g q)::ks=>TC q (Tu ks)
@[reducible] def apC:(q:List C1)→{β γ:Type}→CTy q β→TC q γ→β
 | [],_,_,N,_=>N
 | .i::q,_,_,N,t=>apC q (N t.1) t.2
 | .b::q,_,_,N,t=>apC q (N t.1) t.2
 | .s::q,_,_,N,t=>apC q (N t.1) t.2
 | .v::q,_,_,N,t=>apC q (N t.1) t.2
@[reducible] def rC:(q:List C1)→{γ:Type}→TC q γ→γ
 | [],_,t=>t
 | .i::q,_,t=>rC q t.2
 | .b::q,_,t=>rC q t.2
 | .s::q,_,t=>rC q t.2
 | .v::q,_,t=>rC q t.2
@[reducible] def lC:(q:List C1)→{γ:Type}→TC q γ→List Value
 | [],_,_=>[]
 | .i::q,_,t=>.int .i64 t.1::lC q t.2
 | .b::q,_,t=>.bool t.1::lC q t.2
 | .s::q,_,t=>.string t.1::lC q t.2
 | .v::q,_,t=>t.1::lC q t.2
@[reducible] def apT:(ks:Sk)→{α:Type}→NTy ks α→Tu ks→α
 | [],_,N,_=>N
 | (_,.i _)::ks,_,N,t=>apT ks (N t.1) t.2
 | (_,.b)::ks,_,N,t=>apT ks (N t.1) t.2
 | (_,.s)::ks,_,N,t=>apT ks (N t.1) t.2
 | (_,.v)::ks,_,N,t=>apT ks (N t.1) t.2
 | (_,.x)::ks,_,N,t=>apT ks (N t.1) t.2
 | (_,.p)::ks,_,N,t=>apT ks (N t.1 t.2.1) t.2.2
 | (_,.g q)::ks,_,N,t=>apT ks (apC q N t) (rC q t)
@[reducible] def Sh:(ks:Sk)→Env→Tu ks→Prop
 | [],_,_=>True
 | (s,.i k)::ks,env,t=>env.getD s undef=.int k t.1∧Sh ks env t.2
 | (s,.b)::ks,env,t=>env.getD s undef=.bool t.1∧Sh ks env t.2
 | (s,.s)::ks,env,t=>env.getD s undef=.string t.1∧Sh ks env t.2
 | (s,.v)::ks,env,t=>env.getD s undef=t.1∧Sh ks env t.2
 | (s,.x)::ks,env,t=>env.getD s undef=.pointer (some ⟨t.1,0,none⟩)∧Sh ks env t.2
 | (s,.p)::ks,env,t=>env.getD s undef=.pointer (some ⟨t.1,t.2.1,none⟩)∧Sh ks env t.2.2
 | (s,.g q)::ks,env,t=>env.getD s undef=.agg ⟨lC q t⟩∧Sh ks env (rC q t)
@[reducible] def kuC:(q:List C1)→{β γ:Type}→(TC q γ→β)→CTy q (γ→β)
 | [],_,_,f=>f
 | .i::q,_,_,f=>fun n=>kuC q fun t=>f (n,t)
 | .b::q,_,_,f=>fun n=>kuC q fun t=>f (n,t)
 | .s::q,_,_,f=>fun n=>kuC q fun t=>f (n,t)
 | .v::q,_,_,f=>fun n=>kuC q fun t=>f (n,t)
@[reducible] def mapC:(q:List C1)→{β γ:Type}→(β→γ)→CTy q β→CTy q γ
 | [],_,_,g,N=>g N
 | .i::q,_,_,g,N=>fun n=>mapC q g (N n)
 | .b::q,_,_,g,N=>fun n=>mapC q g (N n)
 | .s::q,_,_,g,N=>fun n=>mapC q g (N n)
 | .v::q,_,_,g,N=>fun n=>mapC q g (N n)
@[reducible] def kuT:(ks:Sk)→{α:Type}→(Tu ks→α)→NTy ks α
 | [],_,f=>f ()
 | (_,.i _)::ks,_,f=>fun n=>kuT ks fun t=>f (n,t)
 | (_,.b)::ks,_,f=>fun n=>kuT ks fun t=>f (n,t)
 | (_,.s)::ks,_,f=>fun n=>kuT ks fun t=>f (n,t)
 | (_,.v)::ks,_,f=>fun n=>kuT ks fun t=>f (n,t)
 | (_,.x)::ks,_,f=>fun n=>kuT ks fun t=>f (n,t)
 | (_,.p)::ks,_,f=>fun b o=>kuT ks fun t=>f (b,o,t)
 | (_,.g q)::ks,_,f=>mapC q (kuT ks) (kuC q f)
theorem zri:∀ (q:List C1) {β γ:Type} {N:CTy q β} {l:List Value} {K:β→Prop} (τ:γ),rdC q N l K→∃ t:TC q γ,l=lC q t∧rC q t=τ∧K (apC q N t)
 | [],_,_,N,[],K,τ,h=>⟨τ,rfl,rfl,h⟩
 | .i::q,_,_,N,.int .i64 n::l,K,τ,h=>by
  obtain ⟨t,h1,h2,h3⟩:=zri q τ h
  exact ⟨(n,t),by rw [h1],h2,h3⟩
 | .b::q,_,_,N,.bool n::l,K,τ,h=>by
  obtain ⟨t,h1,h2,h3⟩:=zri q τ h
  exact ⟨(n,t),by rw [h1],h2,h3⟩
 | .s::q,_,_,N,.string n::l,K,τ,h=>by
  obtain ⟨t,h1,h2,h3⟩:=zri q τ h
  exact ⟨(n,t),by rw [h1],h2,h3⟩
 | .v::q,_,_,N,n::l,K,τ,h=>by
  obtain ⟨t,h1,h2,h3⟩:=zri q τ h
  exact ⟨(n,t),by rw [h1],h2,h3⟩
theorem zjX:∀ (q:List C1) {β γ:Type} {N:CTy q β} {K:β→Prop} (t:TC q γ),K (apC q N t)→rdC q N (lC q t) K
 | [],_,_,N,K,t,h=>h
 | .i::q,_,_,N,K,t,h=>zjX q t.2 h
 | .b::q,_,_,N,K,t,h=>zjX q t.2 h
 | .s::q,_,_,N,K,t,h=>zjX q t.2 h
 | .v::q,_,_,N,K,t,h=>zjX q t.2 h
theorem ziW:∀ (q:List C1) {β γ δ:Type} {g:β→γ} {N:CTy q β} (t:TC q δ),apC q (mapC q g N) t=g (apC q N t)
 | [],_,_,_,g,N,t=>rfl
 | .i::q,_,_,_,g,N,t=>ziW q t.2
 | .b::q,_,_,_,g,N,t=>ziW q t.2
 | .s::q,_,_,_,g,N,t=>ziW q t.2
 | .v::q,_,_,_,g,N,t=>ziW q t.2
theorem zlV:∀ (q:List C1) {β γ:Type} {f:TC q γ→β} (t:TC q γ),apC q (kuC q f) t (rC q t)=f t
 | [],_,_,f,t=>rfl
 | .i::q,_,_,f,t=>zlV q (f:=fun s=>f (t.1,s)) t.2
 | .b::q,_,_,f,t=>zlV q (f:=fun s=>f (t.1,s)) t.2
 | .s::q,_,_,f,t=>zlV q (f:=fun s=>f (t.1,s)) t.2
 | .v::q,_,_,f,t=>zlV q (f:=fun s=>f (t.1,s)) t.2
theorem rd_t {env:Env}:∀ (ks:Sk) {α:Type} {N:NTy ks α} {K:α→Prop},rd ks N env K→∃ t,Sh ks env t∧K (apT ks N t)
 | [],_,N,K,h=>⟨(),trivial,h⟩
 | (s,.i k)::ks,_,N,K,h=>by
  obtain ⟨n,e,h⟩:=zfu h
  obtain ⟨t,h1,h2⟩:=rd_t ks h
  exact ⟨(n,t),⟨e,h1⟩,h2⟩
 | (s,.b)::ks,_,N,K,h=>by
  obtain ⟨n,e,h⟩:=zc9 h
  obtain ⟨t,h1,h2⟩:=rd_t ks h
  exact ⟨(n,t),⟨e,h1⟩,h2⟩
 | (s,.s)::ks,_,N,K,h=>by
  obtain ⟨n,e,h⟩:=zdA h
  obtain ⟨t,h1,h2⟩:=rd_t ks h
  exact ⟨(n,t),⟨e,h1⟩,h2⟩
 | (s,.v)::ks,_,N,K,h=>by
  obtain ⟨t,h1,h2⟩:=rd_t ks h
  exact ⟨(_,t),⟨rfl,h1⟩,h2⟩
 | (s,.x)::ks,_,N,K,h=>by
  obtain ⟨n,e,h⟩:=zp8 h
  obtain ⟨t,h1,h2⟩:=rd_t ks h
  exact ⟨(n,t),⟨e,h1⟩,h2⟩
 | (s,.p)::ks,_,N,K,h=>by
  obtain ⟨b,o,e,h⟩:=zbS h
  obtain ⟨t,h1,h2⟩:=rd_t ks h
  exact ⟨(b,o,t),⟨e,h1⟩,h2⟩
 | (s,.g q)::ks,_,N,K,h=>by
  obtain ⟨l,e,h⟩:=zbD h
  obtain ⟨t0,h1,_,h3⟩:=zri q () h
  obtain ⟨t,h4,h5⟩:=rd_t ks h3
  obtain ⟨t1,h6,h7,h8⟩:=zri q (N:=N) (K:=fun N=>Sh ks env t∧K (apT ks N t)) t (zjX q t0 ⟨h4,h5⟩)
  refine ⟨t1,⟨by rw [e,h1,h6],?_⟩,?_⟩
  ·rw [h7];exact h8.1
  ·show K (apT ks (apC q N t1) (rC q t1));rw [h7];exact h8.2
theorem t_rd {env:Env}:∀ (ks:Sk) {α:Type} {N:NTy ks α} {K:α→Prop} (t:Tu ks),Sh ks env t→K (apT ks N t)→rd ks N env K
 | [],_,N,K,t,_,h=>h
 | (s,.i k)::ks,_,N,K,t,hs,h=>zyy hs.1 (t_rd ks t.2 hs.2 h)
 | (s,.b)::ks,_,N,K,t,hs,h=>zzh hs.1 (t_rd ks t.2 hs.2 h)
 | (s,.s)::ks,_,N,K,t,hs,h=>zzc hs.1 (t_rd ks t.2 hs.2 h)
 | (s,.v)::ks,_,N,K,t,hs,h=>by
  show rd ks (N (env.getD s undef)) env K
  rw [hs.1];exact t_rd ks t.2 hs.2 h
 | (s,.x)::ks,_,N,K,t,hs,h=>zyN hs.1 (t_rd ks t.2 hs.2 h)
 | (s,.p)::ks,_,N,K,t,hs,h=>zyW hs.1 (t_rd ks t.2.2 hs.2 h)
 | (s,.g q)::ks,_,N,K,t,hs,h=>by
  show asAgg (env.getD s undef) fun l=>rdC q N l fun N=>rd ks N env K
  rw [hs.1]
  exact zjX q t (t_rd ks (rC q t) hs.2 h)
theorem zhm:∀ (ks:Sk) {α:Type} {f:Tu ks→α} (t:Tu ks),apT ks (kuT ks f) t=f t
 | [],_,f,t=>rfl
 | (_,.i _)::ks,_,f,t=>zhm ks (f:=fun s=>f (t.1,s)) t.2
 | (_,.b)::ks,_,f,t=>zhm ks (f:=fun s=>f (t.1,s)) t.2
 | (_,.s)::ks,_,f,t=>zhm ks (f:=fun s=>f (t.1,s)) t.2
 | (_,.v)::ks,_,f,t=>zhm ks (f:=fun s=>f (t.1,s)) t.2
 | (_,.x)::ks,_,f,t=>zhm ks (f:=fun s=>f (t.1,s)) t.2
 | (_,.p)::ks,_,f,t=>zhm ks (f:=fun s=>f (t.1,t.2.1,s)) t.2.2
 | (_,.g q)::ks,_,f,t=>by
  show apT ks (apC q (mapC q (kuT ks) (kuC q f)) t) (rC q t)=f t
  rw [ziW,zhm ks,zlV q t]
section
variable {P:Program} {T:TT} {K Rt:EP} {X:Nat→EP} {n:Nat} {ks:Sk} {c:Code}
theorem zBc {N:NTy ks Pr} {env:Env} {H:AHeap} (t:Tu ks) (hl:env.length=n) (hs:Sh ks env t) (h:apT ks N t H):En n ks N env H:=
 lenM hl (t_rd ks t hs h)
@[reducible] def LQ (ks:Sk) (L:NTy ks Pr) (B:NTy ks Pr→NTy ks Pr):Prop:=∀ t H,apT ks L t H→∃ (I:Tu ks→AHeap→Prop) (μ:Tu ks→AHeap→Nat),I t H∧
 ∀ t' H',I t' H'→apT ks (B (kuT ks fun t'' H''=>I t'' H''∧μ t'' H''<μ t' H')) t' H'
theorem rL {L:NTy ks Pr} {B:NTy ks Pr→NTy ks Pr} (hL:LQ ks L B) (hb:∀ N,∀ env H,En n ks (B N) env H→AW P T c env H (mkQ (En n ks N) X Rt)):∀ env H,En n ks L env H→AW P T (.loop c) env H (mkQ K X Rt):=by
 intro env H he
 obtain ⟨hl,he⟩:=lenE he
 obtain ⟨t,hs,ht⟩:=rd_t ks he
 obtain ⟨I,μ,h0,hI⟩:=hL t H ht
 refine zzX (fun m env H=>env.length=n∧∃ t,Sh ks env t∧I t H∧μ t H=m) ?_ env H ⟨_,hl,t,hs,h0,rfl⟩
 rintro m env' H' ⟨hl',t',hs',hi,hm⟩
 refine zBF (hb (kuT ks fun t'' H''=>I t'' H''∧μ t'' H''<μ t' H')) ?_ env' H' (zBc t' hl' hs' (hI t' H' hi))
 intro env2 H2 he2
 obtain ⟨hl2,he2⟩:=lenE he2
 obtain ⟨t2,hs2,h2⟩:=rd_t ks he2
 rw [zhm] at h2
 exact ⟨_,by rw [← hm];exact h2.2,hl2,t2,hs2,h2.1,rfl⟩
end
end Go.Abs
