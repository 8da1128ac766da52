/- The abstract heap: operations that read or reckon. -/
import Derived.Orders
import Derived.Below
import Derived.Laws.Sem
import Derived.Laws.Entries
import Derived.Laws.StructEq
import Derived.Laws.Cover3
import Derived.Laws.Small
import Derived.WideKeyMaps
import Derived.MapKept
set_option linter.unusedVariables false
set_option linter.unusedSimpArgs false
/- The abstract heap, its relation to the model's world, and the relation of values: definitions and first laws. -/
namespace Go.Abs
open Go.RowKit

inductive AObj where
 | row (cells:List Value) (elem:TypeId) (own:Bool)
 | map (es:Array MapEntry) (clock:Nat)
abbrev AHeap:=List (Option AObj)
structure Blk where
 blk:Nat
 sh:Nat
 N:Nat
 sz:Nat
abbrev Loc:=Nat→Option Blk
def scalar:Value→Bool
 | .bool _|.int _ _|.float _ _|.complex _ _ _|.string _|.pointer none|.slice none _ _|.map none|.nilFunc|.nilIface|.chan none=>true
 | _=>false
def SR (ρ:Loc) (a:Addr) (len cap:Nat) (c:Addr) (cap':Nat):Prop:=
 len≤cap'∧(cap=0→cap'=0)∧((len=0∧cap'=0)∨
  ∃ r,ρ a.block=some r∧a.spot=none∧c=⟨r.blk,r.sh+a.off,none⟩∧(cap'=len∨r.sh+a.off+cap'*r.sz≤r.N))
mutual
inductive VR (ρ:Loc):Value→Value→Prop
 | scalar (v:Value) (h:scalar v=true):VR ρ v v
 | ptr (a c:Addr) (r:Blk) (h:ρ a.block=some r) (ha:a.spot=none) (hc:c=⟨r.blk,r.sh+a.off,none⟩):VR ρ (.pointer (some a)) (.pointer (some c))
 | slice (a c:Addr) (len cap cap':Nat) (h:SR ρ a len cap c cap'):VR ρ (.slice (some a) len cap) (.slice (some c) len cap')
 | map (b:Nat) (r:Blk) (h:ρ b=some r):VR ρ (.map (some b)) (.map (some r.blk))
 | func (f:FuncId) (xs xs' ys ys':List Value) (h1:VRs ρ xs xs') (h2:VRs ρ ys ys'):VR ρ (.func (.func f) ⟨xs⟩ ⟨ys⟩) (.func (.func f) ⟨xs'⟩ ⟨ys'⟩)
 | agg (xs xs':List Value) (h:VRs ρ xs xs'):VR ρ (.agg ⟨xs⟩) (.agg ⟨xs'⟩)
 | tuple (xs xs':List Value) (h:VRs ρ xs xs'):VR ρ (.tuple ⟨xs⟩) (.tuple ⟨xs'⟩)
inductive VRs (ρ:Loc):List Value→List Value→Prop
 | nil:VRs ρ [] []
 | cons (x x':Value) (xs xs':List Value) (h:VR ρ x x') (t:VRs ρ xs xs'):VRs ρ (x::xs) (x'::xs')
end

def Loc.le (ρ ρ':Loc):Prop:=∀ b r,ρ b=some r→ρ' b=some r
theorem Loc.le_refl (ρ:Loc):ρ.le ρ:=fun _ _ h=>h
theorem Loc.le_trans {ρ ρ' ρ'':Loc} (h:ρ.le ρ') (k:ρ'.le ρ''):ρ.le ρ'':=fun b r e=>k b r (h b r e)
theorem SR.mono {ρ ρ':Loc} (h:ρ.le ρ') {a c:Addr} {len cap cap':Nat} (s:SR ρ a len cap c cap'):SR ρ' a len cap c cap':=by
 obtain ⟨h1,h0,h2⟩:=s
 refine ⟨h1,h0,?_⟩
 rcases h2 with h2|⟨r,e,rest⟩
 ·exact .inl h2
 ·exact .inr ⟨r,h _ _ e,rest⟩
mutual
theorem VR.mono {ρ ρ':Loc} (h:ρ.le ρ'):∀ {v v':Value},VR ρ v v'→VR ρ' v v'
 | _,_,.scalar v s=>.scalar v s
 | _,_,.ptr a c r e ha hc=>.ptr a c r (h _ _ e) ha hc
 | _,_,.slice a c len cap cap' s=>.slice a c len cap cap' (s.mono h)
 | _,_,.map b r e=>.map b r (h _ _ e)
 | _,_,.func f xs xs' ys ys' h1 h2=>.func f xs xs' ys ys' (VRs.mono h h1) (VRs.mono h h2)
 | _,_,.agg xs xs' h1=>.agg xs xs' (VRs.mono h h1)
 | _,_,.tuple xs xs' h1=>.tuple xs xs' (VRs.mono h h1)
theorem VRs.mono {ρ ρ':Loc} (h:ρ.le ρ'):∀ {v v':List Value},VRs ρ v v'→VRs ρ' v v'
 | _,_,.nil=>.nil
 | _,_,.cons x x' xs xs' h1 t=>.cons x x' xs xs' (VR.mono h h1) (VRs.mono h t)
end

theorem VRs.length {ρ:Loc}:∀ {xs ys:List Value},VRs ρ xs ys→xs.length=ys.length
 | _,_,.nil=>rfl
 | _,_,.cons _ _ _ _ _ t=>by simp [VRs.length t]
theorem VRs.get {ρ:Loc}:∀ {xs ys:List Value},VRs ρ xs ys→∀ (i:Nat) (v:Value),xs[i]?=some v→∃ v',ys[i]?=some v'∧VR ρ v v'
 | _,_,.nil,i,v,h=>by simp at h
 | _,_,.cons x x' xs xs' h1 t,0,v,h=>by simp at h;subst h;exact ⟨x',by simp,h1⟩
 | _,_,.cons x x' xs xs' h1 t,i+1,v,h=>by
  simp at h
  obtain ⟨v',e,r⟩:=VRs.get t i v h
  exact ⟨v',by simpa using e,r⟩
theorem VRs.of_get {ρ:Loc}:∀ {xs ys:List Value},xs.length=ys.length→(∀ (i:Nat) (v:Value),xs[i]?=some v→∃ v',ys[i]?=some v'∧VR ρ v v')→VRs ρ xs ys
 | [],[],_,_=>.nil
 | [],_::_,h,_=>by simp at h
 | _::_,[],h,_=>by simp at h
 | x::xs,y::ys,h,g=>by
  obtain ⟨v',e,r⟩:=g 0 x (by simp)
  simp at e;subst e
  refine .cons _ _ _ _ r (VRs.of_get (by simpa using h) fun i v hv=>?_)
  obtain ⟨v',e,r⟩:=g (i+1) v (by simpa using hv)
  exact ⟨v',by simpa using e,r⟩
theorem VRs.append {ρ:Loc}:∀ {xs ys us vs:List Value},VRs ρ xs ys→VRs ρ us vs→VRs ρ (xs++us) (ys++vs)
 | _,_,_,_,.nil,h=>h
 | _,_,_,_,.cons x x' xs xs' h1 t,h=>.cons _ _ _ _ h1 (VRs.append t h)
theorem VRs.set {ρ:Loc}:∀ {xs ys:List Value},VRs ρ xs ys→∀ (i:Nat) {v v':Value},VR ρ v v'→VRs ρ (xs.set i v) (ys.set i v')
 | _,_,.nil,_,_,_,_=>.nil
 | _,_,.cons x x' xs xs' h1 t,0,_,_,h=>.cons _ _ _ _ h t
 | _,_,.cons x x' xs xs' h1 t,i+1,_,_,h=>.cons _ _ _ _ h1 (VRs.set t i h)
theorem VRs.drop {ρ:Loc}:∀ {xs ys:List Value},VRs ρ xs ys→∀ (i:Nat),VRs ρ (xs.drop i) (ys.drop i)
 | _,_,.nil,i=>by simp;exact .nil
 | _,_,.cons x x' xs xs' h1 t,0=>by simpa using VRs.cons _ _ _ _ h1 t
 | _,_,.cons x x' xs xs' h1 t,i+1=>by simpa using VRs.drop t i
theorem VRs.take {ρ:Loc}:∀ {xs ys:List Value},VRs ρ xs ys→∀ (i:Nat),VRs ρ (xs.take i) (ys.take i)
 | _,_,.nil,i=>by simp;exact .nil
 | _,_,.cons x x' xs xs' h1 t,0=>by simp;exact .nil
 | _,_,.cons x x' xs xs' h1 t,i+1=>by simpa using .cons _ _ _ _ h1 (VRs.take t i)
theorem VRs.getD {ρ:Loc} {xs ys:List Value} (h:VRs ρ xs ys) (i:Nat) {d d':Value} (hd:VR ρ d d'):VR ρ (xs.getD i d) (ys.getD i d'):=by
 by_cases hi:i<xs.length
 ·obtain ⟨v',e,r⟩:=h.get i xs[i] (by simp [hi])
  simp [List.getD,hi,e];exact r
 ·have hl:=h.length
  simp only [List.getD,List.getElem?_eq_none (show xs.length≤i by omega),List.getElem?_eq_none (show ys.length≤i by omega),Option.getD_none]
  exact hd
theorem VRs.replicate {ρ:Loc} {v v':Value} (h:VR ρ v v'):∀ n,VRs ρ (List.replicate n v) (List.replicate n v')
 | 0=>.nil
 | n+1=>by simpa [List.replicate_succ] using VRs.cons _ _ _ _ h (VRs.replicate h n)
theorem VR.undef (ρ:Loc):VR ρ undef undef:=.tuple [] [] .nil
theorem VR.one {ρ:Loc} {v v':Value} (h:VR ρ v v'):v'.oneCell'=v.oneCell':=by cases h <;> rfl
theorem VR.cells {ρ:Loc} {v v':Value} (h:VR ρ v v'):VRs ρ v.cells.toList v'.cells.toList:=by
 cases h with
 | agg xs xs' h=>exact h
 | scalar v h=>cases v <;> first|(simp [Abs.scalar] at h;done)|exact .cons _ _ _ _ (.scalar _ h) .nil
 | ptr a c r h ha hc=>exact .cons _ _ _ _ (.ptr a c r h ha hc) .nil
 | slice a c l cap cap' h=>exact .cons _ _ _ _ (.slice a c l cap cap' h) .nil
 | map b r h=>exact .cons _ _ _ _ (.map b r h) .nil
 | func f xs xs' ys ys' h1 h2=>exact .cons _ _ _ _ (.func f xs xs' ys ys' h1 h2) .nil
 | tuple xs xs' h=>exact .cons _ _ _ _ (.tuple xs xs' h) .nil
def AHeap.cell (H:AHeap) (b o:Nat):Option Value:=
 match H[b]? with
 | some (some (.row cs _ _))=>cs[o]?
 | _=>none
structure TI where
 desc:TypeDesc
 size:Nat
 bytes:Nat
 zero:Value
abbrev TT:=TypeId→Option TI
structure Rel (T:TT) (G:Nat) (w0:World) (ρ:Loc) (H:AHeap) (w:World):Prop where
 below:Below w0.heap.size w0 w
 dom:∀ b r,ρ b=some r→b<H.length∧r.blk<w.heap.size
 glob:∀ g,g<G→∃ N s,ρ g=some ⟨g,0,N,s⟩
 row:∀ b cs e own,H[b]?=some (some (.row cs e own))→∃ r C e' fr,ρ b=some r∧w.heap[r.blk]?=some (.cells C e' fr)∧C.size=r.N∧
  (∀ (i:Nat) v,cs[i]?=some v→v.oneCell'=true∧∃ v',C[r.sh+i]?=some v'∧VR ρ v v')∧(own=true→e'=e∧fr=(0,0)∧w0.heap.size≤r.blk)∧∃ ti,T e=some ti∧r.sz=ti.size
 inj:∀ b b' o o' r r',H[b]?=some (some o)→H[b']?=some (some o')→(∀ cs e,o≠.row cs e false)→ρ b=some r→ρ b'=some r'→r.blk=r'.blk→b=b'
 map:∀ b es cl,H[b]?=some (some (.map es cl))→∃ r,ρ b=some r∧w.heap[r.blk]?=some (.map es cl)∧w0.heap.size≤r.blk
def AHeap.le (H H':AHeap):Prop:=H.length≤H'.length∧∀ (b:Nat) (o:AObj),H[b]?=some (some o)→H'[b]?=some (some o)
theorem AHeap.le_refl (H:AHeap):H.le H:=⟨Nat.le_refl _,fun _ _ h=>h⟩
theorem AHeap.le_trans {H H' H'':AHeap} (h:H.le H') (k:H'.le H''):H.le H'':=⟨Nat.le_trans h.1 k.1,fun b o e=>k.2 b o (h.2 b o e)⟩
theorem AHeap.le_append (H G:AHeap):H.le (H++G):=⟨by simp,fun b o e=>by
 have hb:b<H.length:=by rcases Nat.lt_or_ge b H.length with h|h;exact h;simp [List.getElem?_eq_none h] at e
 rw [List.getElem?_append_left hb];exact e⟩
theorem AHeap.cell_le {H H':AHeap} (h:H.le H') {b o:Nat} {v:Value} (e:H.cell b o=some v):H'.cell b o=some v:=by
 unfold AHeap.cell at *
 split at e
 ·rename_i cs t own hb
  rw [h.2 _ _ hb];exact e
 ·simp at e
theorem Rel.cell {T:TT} {G:Nat} {w0:World} {ρ:Loc} {H:AHeap} {w:World} (R:Rel T G w0 ρ H w) {b o:Nat} {v:Value} (h:H.cell b o=some v) :
 v.oneCell'=true∧∃ r v',ρ b=some r∧w.cell? ⟨r.blk,r.sh+o,none⟩=some v'∧VR ρ v v':=by
 unfold AHeap.cell at h
 split at h
 ·rename_i cs e own hb
  obtain ⟨r,C,e',fr,hr,hw,hN,hc,_⟩:=R.row b cs e own hb
  obtain ⟨h1,v',hv,hvr⟩:=hc o v h
  refine ⟨h1,r,v',hr,?_,hvr⟩
  simp [World.cell?,hw,hv]
 ·simp at h
end Go.Abs
/- Operations that read or reckon: what they give over the abstract heap, and that the model gives the same. -/
namespace Go.Abs
open Go.RowKit

abbrev Env:=List Value
def aev (env:Env):Operand→Value
 | .tmp t=>env.getD t undef
 | .const v=>v
 | .global g=>.pointer (some ⟨g,0,none⟩)
 | .func f=>.func (.func f) #[] #[]
def Env.put (env:Env) (d:Option Tmp) (v:Value):Env:=
 match d with
 | some d=>env.set d v
 | none=>env
def TT.ok (P:Program) (T:TT):Prop:=∀ t i,T t=some i→P.underlying t=some i.desc∧∃ j,P.info? t=some j∧j.size=i.size∧j.bytes=i.bytes∧j.zero=some i.zero
def TI.fine (i:TI):Bool:=
 match i.desc,i.zero with
 | .struct _,.agg zs=>zs.size==i.size
 | .array _ _,.agg zs=>zs.size==i.size
 | .struct _,_=>false
 | .array _ _,_=>false
 | _,.agg _=>false
 | _,.tuple _=>false
 | _,_=>i.size==1
def pif (b:Bool) (A B:Prop):Prop:=
 match b with
 | true=>A
 | false=>B
theorem zat {b:Bool} {A B:Prop} (h:pif b A B):(b=true∧A)∨(b=false∧B):=by
 cases b
 ·exact .inr ⟨rfl,h⟩
 ·exact .inl ⟨rfl,h⟩
def asI (k:IntKind) (v:Value) (K:Int→Prop):Prop:=
 match v with
 | .int k' n=>pif (decide (k'=k)) (K n) False
 | _=>False
def asB (v:Value) (K:Bool→Prop):Prop:=
 match v with
 | .bool b=>K b
 | _=>False
def asS (v:Value) (K:ByteArray→Prop):Prop:=
 match v with
 | .string s=>K s
 | _=>False
def asP (v:Value) (K:Nat→Nat→Prop):Prop:=
 match v with
 | .pointer (some ⟨b,o,none⟩)=>K b o
 | _=>False
def shape1 (z v:Value) (K:Value→Prop):Prop:=
 match z with
 | .int k _=>asI k v fun n=>K (.int k n)
 | .bool _=>asB v fun b=>K (.bool b)
 | .string _=>asS v fun s=>K (.string s)
 | _=>K v
def asAgg (v:Value) (K:List Value→Prop):Prop:=
 match v with
 | .agg ⟨l⟩=>K l
 | _=>False
def asTup (v:Value) (K:List Value→Prop):Prop:=
 match v with
 | .tuple ⟨l⟩=>K l
 | _=>False
def agg1 (v:Value) (K:Value→Prop):Prop:=match v with|.agg ⟨[a]⟩=>K a|_=>False
def agg2 (v:Value) (K:Value→Value→Prop):Prop:=match v with|.agg ⟨[a,b]⟩=>K a b|_=>False
def agg3 (v:Value) (K:Value→Value→Value→Prop):Prop:=match v with|.agg ⟨[a,b,c]⟩=>K a b c|_=>False
def agg4 (v:Value) (K:Value→Value→Value→Value→Prop):Prop:=match v with|.agg ⟨[a,b,c,d]⟩=>K a b c d|_=>False
def tup2 (v:Value) (K:Value→Value→Prop):Prop:=match v with|.tuple ⟨[a,b]⟩=>K a b|_=>False
def tup3 (v:Value) (K:Value→Value→Value→Prop):Prop:=match v with|.tuple ⟨[a,b,c]⟩=>K a b c|_=>False
def tup4 (v:Value) (K:Value→Value→Value→Value→Prop):Prop:=match v with|.tuple ⟨[a,b,c,d]⟩=>K a b c d|_=>False
def shapeC (z v:Value) (K:Value→Prop):Prop:=
 match z with
 | .agg ⟨zs⟩=>match zs with
  | [z1]=>agg1 v fun a=>shape1 z1 a fun a=>K (.agg ⟨[a]⟩)
  | [z1,z2]=>agg2 v fun a b=>shape1 z1 a fun a=>shape1 z2 b fun b=>K (.agg ⟨[a,b]⟩)
  | [z1,z2,z3]=>agg3 v fun a b c=>shape1 z1 a fun a=>shape1 z2 b fun b=>shape1 z3 c fun c=>K (.agg ⟨[a,b,c]⟩)
  | [z1,z2,z3,z4]=>agg4 v fun a b c d=>shape1 z1 a fun a=>shape1 z2 b fun b=>shape1 z3 c fun c=>shape1 z4 d fun d=>K (.agg ⟨[a,b,c,d]⟩)
  | _=>False
 | z=>shape1 z v K
def shapeR (z v:Value) (K:Value→Prop):Prop:=
 match z with
 | .tuple ⟨zs⟩=>match zs with
  | []=>asTup v fun vs=>K (.tuple ⟨vs⟩)
  | [z1,z2]=>tup2 v fun a b=>shapeC z1 a fun a=>shapeC z2 b fun b=>K (.tuple ⟨[a,b]⟩)
  | [z1,z2,z3]=>tup3 v fun a b c=>shapeC z1 a fun a=>shapeC z2 b fun b=>shapeC z3 c fun c=>K (.tuple ⟨[a,b,c]⟩)
  | [z1,z2,z3,z4]=>tup4 v fun a b c d=>shapeC z1 a fun a=>shapeC z2 b fun b=>shapeC z3 c fun c=>shapeC z4 d fun d=>K (.tuple ⟨[a,b,c,d]⟩)
  | _=>False
 | z=>shapeC z v K
theorem zfu {k:IntKind} {v:Value} {K:Int→Prop} (h:asI k v K):∃ n,v=.int k n∧K n:=by
 unfold asI at h;split at h
 ·rcases zat h with ⟨h1,h⟩|⟨_,h⟩
  ·exact ⟨_,by rw [of_decide_eq_true h1],h⟩
  ·exact h.elim
 ·exact h.elim
theorem zag {k:IntKind} {n:Int} {K:Int→Prop} (h:K n):asI k (.int k n) K:=by
 unfold asI;simp only [decide_true];exact h
theorem zc9 {v:Value} {K:Bool→Prop} (h:asB v K):∃ n,v=.bool n∧K n:=by
 unfold asB at h;split at h
 ·exact ⟨_,rfl,h⟩
 ·exact h.elim
theorem zdA {v:Value} {K:ByteArray→Prop} (h:asS v K):∃ n,v=.string n∧K n:=by
 unfold asS at h;split at h
 ·exact ⟨_,rfl,h⟩
 ·exact h.elim
theorem zbS {v:Value} {K:Nat→Nat→Prop} (h:asP v K):∃ b o,v=.pointer (some ⟨b,o,none⟩)∧K b o:=by
 unfold asP at h;split at h
 ·exact ⟨_,_,rfl,h⟩
 ·exact h.elim
theorem zbD {v:Value} {K:List Value→Prop} (h:asAgg v K):∃ l,v=.agg ⟨l⟩∧K l:=by
 unfold asAgg at h;split at h
 ·exact ⟨_,rfl,h⟩
 ·exact h.elim
theorem zdQ {v:Value} {K:List Value→Prop} (h:asTup v K):∃ l,v=.tuple ⟨l⟩∧K l:=by
 unfold asTup at h;split at h
 ·exact ⟨_,rfl,h⟩
 ·exact h.elim
theorem zaX {z v:Value} {K:Value→Prop} (h:shape1 z v K):K v:=by
 unfold shape1 at h
 split at h
 ·obtain ⟨n,e,h'⟩:=zfu h;rw [e];exact h'
 ·obtain ⟨n,e,h'⟩:=zc9 h;rw [e];exact h'
 ·obtain ⟨n,e,h'⟩:=zdA h;rw [e];exact h'
 ·exact h
theorem zmk {v:Value} {K:Value→Prop} (h:agg1 v K):∃ a,v=.agg ⟨[a]⟩∧K a:=by
 unfold agg1 at h;split at h
 ·exact ⟨_,rfl,h⟩
 ·exact h.elim
theorem zmA {v:Value} {K:Value→Value→Prop} (h:agg2 v K):∃ a b,v=.agg ⟨[a,b]⟩∧K a b:=by
 unfold agg2 at h;split at h
 ·exact ⟨_,_,rfl,h⟩
 ·exact h.elim
theorem zl2 {v:Value} {K:Value→Value→Value→Prop} (h:agg3 v K):∃ a b c,v=.agg ⟨[a,b,c]⟩∧K a b c:=by
 unfold agg3 at h;split at h
 ·exact ⟨_,_,_,rfl,h⟩
 ·exact h.elim
theorem zl8 {v:Value} {K:Value→Value→Value→Value→Prop} (h:agg4 v K):∃ a b c d,v=.agg ⟨[a,b,c,d]⟩∧K a b c d:=by
 unfold agg4 at h;split at h
 ·exact ⟨_,_,_,_,rfl,h⟩
 ·exact h.elim
theorem znJ {v:Value} {K:Value→Value→Prop} (h:tup2 v K):∃ a b,v=.tuple ⟨[a,b]⟩∧K a b:=by
 unfold tup2 at h;split at h
 ·exact ⟨_,_,rfl,h⟩
 ·exact h.elim
theorem znB {v:Value} {K:Value→Value→Value→Prop} (h:tup3 v K):∃ a b c,v=.tuple ⟨[a,b,c]⟩∧K a b c:=by
 unfold tup3 at h;split at h
 ·exact ⟨_,_,_,rfl,h⟩
 ·exact h.elim
theorem zlS {v:Value} {K:Value→Value→Value→Value→Prop} (h:tup4 v K):∃ a b c d,v=.tuple ⟨[a,b,c,d]⟩∧K a b c d:=by
 unfold tup4 at h;split at h
 ·exact ⟨_,_,_,_,rfl,h⟩
 ·exact h.elim
theorem zbz {z v:Value} {K:Value→Prop} (h:shapeC z v K):K v:=by
 unfold shapeC at h
 split at h
 ·split at h
  ·obtain ⟨a,e,h⟩:=zmk h;rw [e];exact zaX (K:=fun a=>K (.agg ⟨[a]⟩)) h
  ·obtain ⟨a,b,e,h⟩:=zmA h;rw [e]
   have h:=zaX (K:=fun a=>shape1 _ b fun b=>K (.agg ⟨[a,b]⟩)) h
   exact zaX (K:=fun b=>K (.agg ⟨[a,b]⟩)) h
  ·obtain ⟨a,b,c,e,h⟩:=zl2 h;rw [e]
   have h:=zaX (K:=fun a=>shape1 _ b fun b=>shape1 _ c fun c=>K (.agg ⟨[a,b,c]⟩)) h
   have h:=zaX (K:=fun b=>shape1 _ c fun c=>K (.agg ⟨[a,b,c]⟩)) h
   exact zaX (K:=fun c=>K (.agg ⟨[a,b,c]⟩)) h
  ·obtain ⟨a,b,c,d,e,h⟩:=zl8 h;rw [e]
   have h:=zaX (K:=fun a=>shape1 _ b fun b=>shape1 _ c fun c=>shape1 _ d fun d=>K (.agg ⟨[a,b,c,d]⟩)) h
   have h:=zaX (K:=fun b=>shape1 _ c fun c=>shape1 _ d fun d=>K (.agg ⟨[a,b,c,d]⟩)) h
   have h:=zaX (K:=fun c=>shape1 _ d fun d=>K (.agg ⟨[a,b,c,d]⟩)) h
   exact zaX (K:=fun d=>K (.agg ⟨[a,b,c,d]⟩)) h
  ·exact h.elim
 ·exact zaX h
theorem ziK {z v:Value} {K:Value→Prop} (h:shapeR z v K):K v:=by
 unfold shapeR at h
 split at h
 ·split at h
  ·obtain ⟨l,e,h'⟩:=zdQ h;rw [e];exact h'
  ·obtain ⟨a,b,e,h⟩:=znJ h;rw [e]
   have h:=zbz (K:=fun a=>shapeC _ b fun b=>K (.tuple ⟨[a,b]⟩)) h
   exact zbz (K:=fun b=>K (.tuple ⟨[a,b]⟩)) h
  ·obtain ⟨a,b,c,e,h⟩:=znB h;rw [e]
   have h:=zbz (K:=fun a=>shapeC _ b fun b=>shapeC _ c fun c=>K (.tuple ⟨[a,b,c]⟩)) h
   have h:=zbz (K:=fun b=>shapeC _ c fun c=>K (.tuple ⟨[a,b,c]⟩)) h
   exact zbz (K:=fun c=>K (.tuple ⟨[a,b,c]⟩)) h
  ·obtain ⟨a,b,c,d,e,h⟩:=zlS h;rw [e]
   have h:=zbz (K:=fun a=>shapeC _ b fun b=>shapeC _ c fun c=>shapeC _ d fun d=>K (.tuple ⟨[a,b,c,d]⟩)) h
   have h:=zbz (K:=fun b=>shapeC _ c fun c=>shapeC _ d fun d=>K (.tuple ⟨[a,b,c,d]⟩)) h
   have h:=zbz (K:=fun c=>shapeC _ d fun d=>K (.tuple ⟨[a,b,c,d]⟩)) h
   exact zbz (K:=fun d=>K (.tuple ⟨[a,b,c,d]⟩)) h
  ·exact h.elim
 ·exact zbz h
def ld1 (H:AHeap) (b o:Nat) (K:Value→Prop):Prop:=
 match H.cell b o with
 | some v=>K v
 | none=>False
def ldI (k:IntKind) (H:AHeap) (b o:Nat) (K:Int→Prop):Prop:=ld1 H b o fun v=>asI k v K
def ldCells (H:AHeap) (b:Nat):Nat→List Value→(List Value→Prop)→Prop
 | _,[],K=>K []
 | o,z::zs,K=>ld1 H b o fun v=>shape1 z v fun v=>ldCells H b (o+1) zs fun l=>K (v::l)
def ldT (T:TT) (t:TypeId) (H:AHeap) (b o:Nat) (K:Value→Prop):Prop:=
 match T t with
 | some i=>pif i.fine (match i.zero with
  | .agg ⟨zs⟩=>ldCells H b o zs fun l=>K (.agg ⟨l⟩)
  | z=>ld1 H b o fun v=>shape1 z v K) False
 | none=>False
theorem zh5 {H:AHeap} {b o:Nat} {K:Value→Prop} (h:ld1 H b o K):∃ v,H.cell b o=some v∧K v:=by
 unfold ld1 at h;split at h
 ·exact ⟨_,by assumption,h⟩
 ·exact h.elim
theorem zho {H:AHeap} {b:Nat}:∀ {zs:List Value} {o:Nat} {K:List Value→Prop},ldCells H b o zs K→
 ∃ l,l.length=zs.length∧(∀ (i:Nat) v,l[i]?=some v→H.cell b (o+i)=some v)∧K l
 | [],o,K,h=>⟨[],rfl,by simp,h⟩
 | z::zs,o,K,h=>by
  obtain ⟨v,hv,h⟩:=zh5 h
  have h:=zaX h
  obtain ⟨l,hl,hc,hk⟩:=zho (K:=fun l=>K (v::l)) h
  refine ⟨v::l,by simp [hl],fun i u hu=>?_,hk⟩
  cases i with
  | zero=>simp at hu;subst hu;exact hv
  | succ i=>simp at hu;have:=hc i u hu;rw [← this];congr 1;omega
def lenK (v:Value) (K:Nat→Prop):Prop:=
 match v with
 | .slice _ n _=>K n
 | _=>False
def idxK (v:Value) (i:Int) (sz:Nat) (K:Nat→Nat→Prop):Prop:=
 match v with
 | .slice (some ⟨b,o,none⟩) n _=>0≤i∧i<(n:Int)∧K b (o+i.toNat*sz)
 | _=>False
def offAt (o:Nat) (n:Int) (s:Nat):Nat:=o+n.toNat*s
def bndK (i:Int) (n:Nat) (K:Prop):Prop:=pif (decide (0≤i∧i<(n:Int))) K False
theorem zaR {i:Int} {n:Nat} {K:Prop}:bndK i n K↔0≤i∧i<(n:Int)∧K:=by
 unfold bndK
 by_cases h:0≤i∧i<(n:Int)
 ·rw [decide_eq_true h];exact ⟨fun k=>⟨h.1,h.2,k⟩,fun k=>k.2.2⟩
 ·rw [decide_eq_false h];exact ⟨fun k=>k.elim,fun k=>h ⟨k.1,k.2.1⟩⟩
def sbndK (l h:Int) (n:Nat) (K:Prop):Prop:=0≤l∧l≤h∧h≤(n:Int)∧K
def clipK (v:Value) (K:Value→Prop):Prop:=
 match v with
 | .slice (some a) _ _=>K (.slice (some a) 0 0)
 | .slice none 0 0=>K (.slice none 0 0)
 | _=>False
def isNilK (v:Value) (K:Bool→Prop):Prop:=
 match v with
 | .slice a _ _=>K a.isNone
 | _=>False
def atK (cs:List Value) (i:Nat) (K:Value→Prop):Prop:=
 match cs[i]? with
 | some v=>K v
 | none=>False
def nilK (v:Value) (K:Value→Prop):Prop:=
 match v with
 | .pointer (some ⟨b,o,none⟩)=>K (.pointer (some ⟨b,o,none⟩))
 | .func (.func f) xs ys=>K (.func (.func f) xs ys)
 | _=>False
theorem zjj {v:Value} {K:Nat→Prop} (h:lenK v K):∃ a n c,v=.slice a n c∧K n:=by
 unfold lenK at h;split at h
 ·exact ⟨_,_,_,rfl,h⟩
 ·exact h.elim
theorem zlW {v:Value} {i:Int} {sz:Nat} {K:Nat→Nat→Prop} (h:idxK v i sz K) :
 ∃ b o n c,v=.slice (some ⟨b,o,none⟩) n c∧0≤i∧i<(n:Int)∧K b (o+i.toNat*sz):=by
 unfold idxK at h;split at h
 ·exact ⟨_,_,_,_,rfl,h⟩
 ·exact h.elim
def loOf:Option Value→(Int→Prop)→Prop
 | none,K=>K 0
 | some v,K=>match v with|.int _ n=>K n|_=>False
def hiOf:Option Value→Nat→(Int→Prop)→Prop
 | none,n,K=>K n
 | some v,_,K=>match v with|.int _ n=>K n|_=>False
def rowHas (H:AHeap) (b:Nat) (e:TypeId) (n:Nat):Prop:=∃ cs own,H[b]?=some (some (.row cs e own))∧n≤cs.length
def sliceK (H:AHeap) (e:TypeId) (v:Value) (lo:Option Value) (hi:Option Value) (sz:Nat) (K:Value→Prop):Prop:=
 match v with
 | .slice (some ⟨b,o,none⟩) n c=>rowHas H b e (o+n*sz)∧loOf lo fun l=>hiOf hi n fun h=>0≤l∧l≤h∧h≤(n:Int)∧K (.slice (some ⟨b,o+l.toNat*sz,none⟩) (h.toNat-l.toNat) (h.toNat-l.toNat+1))
 | .slice none n c=>loOf lo fun l=>hiOf hi n fun h=>l=0∧h=0∧n=0∧c=0∧K (.slice none 0 0)
 | _=>False
def bitsOf (op:BinOp) (k:IntKind) (x y:Int) (K:Value→Prop):Prop:=
 match op with
 | .and=>K (.int k (k.wrap (BitVec.ofInt k.bits x&&&BitVec.ofInt k.bits y).toNat))
 | .or=>K (.int k (k.wrap (BitVec.ofInt k.bits x|||BitVec.ofInt k.bits y).toNat))
 | .xor=>K (.int k (k.wrap (BitVec.ofInt k.bits x ^^^ BitVec.ofInt k.bits y).toNat))
 | .andNot=>K (.int k (k.wrap (BitVec.ofInt k.bits x&&&~~~BitVec.ofInt k.bits y).toNat))
 | _=>False
def shiftK (op:BinOp) (k:IntKind) (x y:Int) (K:Value→Prop):Prop:=
 match op with
 | .shl=>0≤y∧K (.int k (k.wrap (x*2^(min y.toNat k.bits))))
 | .shr=>0≤y∧K (.int k (x.fdiv (2^(min y.toNat k.bits))))
 | _=>False
def nzK (y:Int) (K:Prop):Prop:=pif (y != 0) K False
def intK (op:BinOp) (k:IntKind) (x y:Int) (K:Value→Prop):Prop:=
 match op with
 | .add=>K (.int k (k.wrap (x+y)))
 | .sub=>K (.int k (k.wrap (x-y)))
 | .mul=>K (.int k (k.wrap (x*y)))
 | .quo=>nzK y (K (.int k (k.wrap (x.tdiv y))))
 | .rem=>nzK y (K (.int k (x.tmod y)))
 | .and|.or|.xor|.andNot=>bitsOf op k x y K
 | .eql=>K (.bool (x==y))
 | .neq=>K (.bool (x != y))
 | .lss=>K (.bool (x<y))
 | .leq=>K (.bool (x≤y))
 | .gtr=>K (.bool (x>y))
 | .geq=>K (.bool (x≥y))
 | _=>False
def strK (op:BinOp) (x y:ByteArray) (K:Value→Prop):Prop:=
 match op with
 | .add=>x.size+y.size≤4611686018427387904∧K (.string (x++y))
 | .eql=>K (.bool (x.toList==y.toList))
 | .neq=>K (.bool !(x.toList==y.toList))
 | .lss=>K (.bool (Op.bytesLess x.toList y.toList))
 | _=>False
def eq2K (v u:List Value) (K:Bool→Prop):Prop:=
 match v,u with
 | [.int .i64 a,.int .i64 b],[.int .i64 c,.int .i64 d]=>K ((a==c)&&(b==d))
 | _,_=>False
def eqOp (op:BinOp) (b:Bool) (K:Value→Prop):Prop:=
 match op with
 | .eql=>K (.bool b)
 | .neq=>K (.bool (!b))
 | _=>False
def intAll (op:BinOp) (k:IntKind) (x:Int) (k':IntKind) (y:Int) (K:Value→Prop):Prop:=
 match op with
 | .shl=>shiftK .shl k x y K
 | .shr=>shiftK .shr k x y K
 | op=>pif (decide (k=k')) (intK op k x y K) False
def binK (T:TT) (op:BinOp) (t:TypeId) (v u:Value) (K:Value→Prop):Prop:=
 match v,u with
 | .int k x,.int k' y=>intAll op k x k' y K
 | .string x,.string y=>strK op x y K
 | .bool x,.bool y=>match T t with|some ⟨.bool,_,_,_⟩=>eqOp op (x==y) K|_=>False
 | .agg ⟨x⟩,.agg ⟨y⟩=>match T t with|some ⟨.array 2 e,_,_,_⟩=>(match T e with|some ⟨.int .i64,1,_,_⟩=>eq2K x y fun b=>eqOp op b K|_=>False)|_=>False
 | _,_=>False
def nilCmp (T:TT) (op:BinOp) (t:TypeId) (v:Value) (K:Value→Prop):Prop:=
 match T t with
 | some ⟨.slice _,_,_,_⟩=>isNilK v fun b=>eqOp op b K
 | _=>False
def isNilSlice (u:Value):Bool:=match u with|.slice none 0 0=>true|_=>false
def unK (op:UnOp) (v:Value) (K:Value→Prop):Prop:=
 match op,v with
 | .not,.bool b=>K (.bool !b)
 | .neg,.int k n=>K (.int k (k.wrap (0-n)))
 | .xor,.int k n=>bitsOf .xor k (if k.signed then -1 else k.max) n K
 | _,_=>False
def convK (T:TT) (d:TypeId) (v:Value) (K:Value→Prop):Prop:=
 match T d,v with
 | some ⟨.int k,_,_,_⟩,.int _ n=>K (.int k (k.wrap n))
 | some ⟨.string,_,_,_⟩,.string s=>K (.string s)
 | _,_=>False
def cellsOf (z v:Value) (K:List Value→Prop):Prop:=
 match z with
 | .agg _=>asAgg v K
 | _=>pif v.oneCell' (K [v]) False
def fillK (T:TT) (place:Nat→Option (Nat × TypeId)):List (Nat × Value)→List Value→(List Value→Prop)→Prop
 | [],cs,K=>K cs
 | (i,v)::rest,cs,K=>
  match place i with
  | some (off,t)=>match T t with
   | some ti=>pif ti.fine (cellsOf ti.zero v fun vs=>pif (decide (vs.length=ti.size∧off+vs.length≤cs.length)) (fillK T place rest (cs.take off++vs++cs.drop (off+vs.length)) K) False) False
   | none=>False
  | none=>False
def placeOf (d:TypeDesc) (T:TT) (i:Nat):Option (Nat × TypeId):=
 match d with
 | .struct fs=>(fs.toList[i]?).map fun f=>(f.offset,f.type)
 | .array _ e=>(T e).map fun ti=>(i*ti.size,e)
 | _=>none
def partK (T:TT) (t:TypeId) (cs:List Value) (off:Nat) (K:Value→Prop):Prop:=
 match T t with
 | some i=>pif i.fine (match i.zero with
  | .agg _=>pif (decide (off+i.size≤cs.length)) (K (.agg ⟨(cs.drop off).take i.size⟩)) False
  | _=>atK cs off K) False
 | none=>False
def fieldsTold (T:TT) (i:TI):Bool:=
 match i.desc with
 | .struct fs=>fs.toList.all fun f=>(T f.type).isSome
 | .array _ e=>(T e).isSome
 | _=>true
def aRd (T:TT) (op:Op) (ev:Operand→Value) (H:AHeap) (K:Value→Prop):Prop:=
 match op with
 | .move x=>K (ev x)
 | .assign x=>K (ev x)
 | .pick c a b=>asB (ev c) fun c=>pif c (K (ev a)) (K (ev b))
 | .load t p=>asP (ev p) fun b o=>ldT T t H b o K
 | .nilCheck x=>nilK (ev x) K
 | .binOp op t x y _=>match y with
  | .const u=>pif (isNilSlice u) (nilCmp T op t (ev x) K) (binK T op t (ev x) u K)
  | y=>binK T op t (ev x) (ev y) K
 | .unOp op _ x=>unK op (ev x) K
 | .convert s d x=>pif (T s).isSome (convK T d (ev x) K) False
 | .makeFunc (.func f) xs ys=>K (.func (.func f) ⟨xs.toList.map ev⟩ ⟨ys.toList.map ev⟩)
 | .fieldAddr s x f=>match T s with
  | some ⟨.struct fs,_,_,_⟩=>match fs.toList[f]? with
   | some fl=>match T fl.type with
    | some ti=>pif (ti.size != 0) (asP (ev x) fun b o=>K (.pointer (some ⟨b,o+fl.offset,none⟩))) False
    | none=>False
   | none=>False
  | _=>False
 | .field t x f=>match T t with
  | some ⟨.struct fs,_,_,_⟩=>match fs.toList[f]? with
   | some fl=>asAgg (ev x) fun cs=>partK T fl.type cs fl.offset K
   | none=>False
  | _=>False
 | .indexAddr t x i=>match T t,ev i with
  | some ⟨.slice e,_,_,_⟩,.int _ n=>match T e with
   | some ti=>idxK (ev x) n ti.size fun b o=>K (.pointer (some ⟨b,o,none⟩))
   | none=>False
  | some ⟨.array len e,_,_,_⟩,.int _ n=>match T e with
   | some ti=>asP (ev x) fun b o=>bndK n len (K (.pointer (some ⟨b,offAt o n ti.size,none⟩)))
   | none=>False
  | _,_=>False
 | .index t x i=>match T t,ev i with
  | some ⟨.array len e,_,_,_⟩,.int _ n=>match T e with
   | some ti=>asAgg (ev x) fun cs=>bndK n len (partK T e cs (n.toNat*ti.size) fun v=>shape1 ti.zero v K)
   | none=>False
  | some ⟨.string,_,_,_⟩,.int _ n=>match ev x with
   | .string s=>bndK n s.size (K (.int .u8 (s.data.toList.getD n.toNat 0).toNat))
   | _=>False
  | _,_=>False
 | .build t parts=>match T t with
  | some i=>pif (i.fine&&fieldsTold T i) (asAgg i.zero fun zs=>pif (zs.all scalar) (fillK T (placeOf i.desc T) (parts.toList.map fun p=>(p.1,ev p.2)) zs fun cs=>K (.agg ⟨cs⟩)) False) False
  | none=>False
 | .slice t x lo hi none=>match T t with
  | some ⟨.slice e,_,_,_⟩=>match T e with
   | some ti=>pif (ti.size != 0) (sliceK H e (ev x) (lo.map ev) (hi.map ev) ti.size K) False
   | none=>False
  | some ⟨.string,_,_,_⟩=>match ev x with
   | .string s=>loOf (lo.map ev) fun l=>hiOf (hi.map ev) s.size fun h=>sbndK l h s.size (K (.string (s.extract l.toNat h.toNat)))
   | _=>False
  | some ⟨.array n e,_,_,_⟩=>match lo,hi,T e with
   | none,none,some _=>asP (ev x) fun b o=>K (.slice (some ⟨b,o,none⟩) n (n+1))
   | _,_,_=>False
  | _=>False
 | .slice t x none (some hi) (some mx)=>match T t with
  | some ⟨.slice e,_,_,_⟩=>match T e,ev hi,ev mx with
   | some _,.int _ 0,.int _ 0=>clipK (ev x) K
   | _,_,_=>False
  | _=>False
 | .extract x ix=>asTup (ev x) fun vs=>match vs[ix]? with
  | some v=>K v
  | none=>False
 | _=>False
end Go.Abs
/- Operations that read or reckon: the model gives what the abstract ones give. -/
namespace Go.Abs
open Go.RowKit

def constOK:Value→Bool
 | .agg ⟨l⟩=>l.all scalar
 | .tuple ⟨l⟩=>l.all scalar
 | .func (.func _) ⟨[]⟩ ⟨[]⟩=>true
 | v=>scalar v
def operandOK (G:Nat):Operand→Bool
 | .const v=>constOK v
 | .global g=>decide (g<G)
 | _=>true
structure EnvR (ρ:Loc) (env:Env) (a:Act):Prop where
 vals:VRs ρ env a.tmps.toList
 defers:a.defers=[]
theorem VRs.scalars {ρ:Loc}:∀ {l:List Value},l.all scalar=true→VRs ρ l l
 | [],_=>.nil
 | v::l,h=>by
  simp at h
  exact .cons _ _ _ _ (.scalar v h.1) (VRs.scalars (by simpa using h.2))
theorem VR.const {ρ:Loc} {v:Value} (h:constOK v=true):VR ρ v v:=by
 unfold constOK at h
 split at h
 ·exact .agg _ _ (VRs.scalars h)
 ·exact .tuple _ _ (VRs.scalars h)
 ·exact .func _ _ _ _ _ .nil .nil
 ·exact .scalar _ h
section
variable {P:Program} {T:TT} {G:Nat} {w0 w:World} {ρ:Loc} {H:AHeap} {env:Env} {a:Act}

theorem zlw (hg:∀ g,g<G→∃ N s,ρ g=some ⟨g,0,N,s⟩) (E:EnvR ρ env a) {x:Operand} (hx:operandOK G x=true):VR ρ (aev env x) (a.eval x):=by
 cases x with
 | tmp t=>
  have:=E.vals.getD t (VR.undef ρ)
  simp only [aev,Act.eval]
  rw [show a.tmps.getD t undef=a.tmps.toList.getD t undef by simp [Array.getD,List.getD];split <;> simp_all]
  exact this
 | const v=>exact VR.const hx
 | global g=>
  obtain ⟨N,s,h⟩:=hg g (by simpa [operandOK] using hx)
  exact .ptr ⟨g,0,none⟩ ⟨g,0,none⟩ _ h rfl rfl
 | func f=>exact .func f [] [] [] [] .nil .nil
theorem EnvR.put {d:Option Tmp} {v v':Value} (E:EnvR ρ env a) (h:VR ρ v v'):EnvR ρ (env.put d v) (a.put d v'):=by
 cases d with
 | none=>exact E
 | some d=>exact ⟨by simpa [Env.put,Act.put] using E.vals.set d h,E.defers⟩
theorem EnvR.mono {ρ':Loc} (h:ρ.le ρ') (E:EnvR ρ env a):EnvR ρ' env a:=⟨E.vals.mono h,E.defers⟩
theorem zal (hT:TT.ok P T) {t:TypeId} {i:TI} (h:T t=some i):(underlying t).run P w=.ok i.desc w:=by
 obtain ⟨h1,_⟩:=hT t i h
 simp [underlying,h1]
theorem zaS (hT:TT.ok P T) {t:TypeId} {i:TI} (h:T t=some i):(sizeOf t).run P w=.ok i.size w:=by
 obtain ⟨_,j,h1,h2,h3,h4⟩:=hT t i h
 simp [sizeOf,typeInfo,h1,h2]
theorem zbv (hT:TT.ok P T) {t:TypeId} {i:TI} (h:T t=some i):(zeroValue t).run P w=.ok i.zero w:=by
 obtain ⟨_,j,h1,h2,h3,h4⟩:=hT t i h
 simp [zeroValue,typeInfo,h1,h4]
theorem zeE (hT:TT.ok P T) {t:TypeId} {i:TI} (h:T t=some i):∃ j,(typeInfo t).run P w=.ok j w∧j.size=i.size∧j.bytes=i.bytes∧j.zero=some i.zero:=by
 obtain ⟨_,j,h1,h2,h3,h4⟩:=hT t i h
 exact ⟨j,by simp [typeInfo,h1],h2,h3,h4⟩
def TI.isAgg (i:TI):Bool:=match i.desc with|.struct _=>true|.array _ _=>true|_=>false
theorem zd8 (hT:TT.ok P T) {t:TypeId} {i:TI} (h:T t=some i):(isAgg t).run P w=.ok i.isAgg w:=by
 unfold isAgg TI.isAgg
 rw [Sem.run_bind,zal hT h]
 cases i.desc <;> rfl
theorem zlD {i:TI} (h:i.fine=true):(∃ zs,i.zero=.agg ⟨zs⟩∧zs.length=i.size∧i.isAgg=true)∨((∀ zs,i.zero≠.agg zs)∧(∀ zs,i.zero≠.tuple zs)∧i.size=1∧i.isAgg=false):=by
 obtain ⟨d,s,b,z⟩:=i
 simp only [TI.isAgg]
 cases d <;> cases z <;> simp [TI.fine] at h ⊢ <;> first|exact h|(rename_i x;exact ⟨x.toList,by simp,by simpa using h⟩)|skip
theorem zhr (R:Rel T G w0 ρ H w) {b o:Nat} {v:Value} (h:H.cell b o=some v) {c:Addr} {r:Blk} (hr:ρ b=some r) (hc:c=⟨r.blk,r.sh+o,none⟩) :
 ∃ v',(load c).run P w=.ok v' w∧VR ρ v v':=by
 obtain ⟨_,r',v',hr',hv,hvr⟩:=R.cell h
 rw [hr] at hr'
 obtain rfl:=Option.some.inj hr'
 refine ⟨v',?_,hvr⟩
 subst hc
 simp [hv]
theorem Addr.add_eq (c:Addr) (h:c.spot=none) (n:Nat):c.add n=⟨c.block,c.off+n,none⟩:=by
 unfold Addr.add
 split
 ·rename_i e;subst e;cases c;simp_all
 ·rfl
theorem zcQ (R:Rel T G w0 ρ H w) {b:Nat} {r:Blk} (hr:ρ b=some r):∀ (l:List Value) (o i:Nat) (c:Addr) (acc:Array Value),
 c=⟨r.blk,r.sh+o,none⟩→(∀ (j:Nat) v,l[j]?=some v→H.cell b (o+i+j)=some v)→
 ∃ l',(loadCellsFrom c i l.length acc).run P w=.ok (acc++l'.toArray) w∧VRs ρ l l'
 | [],o,i,c,acc,hc,h=>⟨[],by simp [loadCellsFrom],.nil⟩
 | v::l,o,i,c,acc,hc,h=>by
  have h0:=h 0 v (by simp)
  obtain ⟨v',hv',hvr⟩:=zhr (P:=P) R (b:=b) (o:=o+i) (v:=v) (by simpa using h0) (c:=c.add i) hr (by subst hc;rw [Addr.add_eq _ rfl];simp [Nat.add_assoc])
  obtain ⟨l',hl',hvs⟩:=zcQ R hr l o (i+1) c (acc.push v') hc (fun j u hu=>by
   have:=h (j+1) u (by simpa using hu);rw [← this];congr 1;omega)
  refine ⟨v'::l',?_,.cons _ _ _ _ hvr hvs⟩
  simp only [List.length_cons,loadCellsFrom,Sem.run_bind,hv',Result.andThen_ok,hl']
  simp
theorem zgM (R:Rel T G w0 ρ H w) {b o:Nat} {r:Blk} (hr:ρ b=some r) {l:List Value} {c:Addr} (hc:c=⟨r.blk,r.sh+o,none⟩)
 (h:∀ (j:Nat) v,l[j]?=some v→H.cell b (o+j)=some v) :
 ∃ l',(loadCells c l.length).run P w=.ok l'.toArray w∧VRs ρ l l':=by
 obtain ⟨l',h1,h2⟩:=zcQ (P:=P) R hr l o 0 c #[] hc (by simpa using h)
 exact ⟨l',by simpa [loadCells] using h1,h2⟩
theorem znK (hT:TT.ok P T) (R:Rel T G w0 ρ H w) {t:TypeId} {b o:Nat} {K:Value→Prop} (h:ldT T t H b o K) {r:Blk} (hr:ρ b=some r) {c:Addr} (hc:c=⟨r.blk,r.sh+o,none⟩) :
 ∃ v v',K v∧VR ρ v v'∧(loadVar t c).run P w=.ok v' w:=by
 unfold ldT at h
 split at h
 ·rename_i i hi
  rcases zat h with ⟨hf,h⟩|⟨_,h⟩
  ·rcases zlD hf with ⟨zs,hz,hs,ha⟩|⟨hn,hn2,hs,ha⟩
   ·simp only [hz] at h
    obtain ⟨l,hl,hcell,hk⟩:=zho (K:=fun l=>K (.agg ⟨l⟩)) h
    obtain ⟨l',h1,h2⟩:=zgM (P:=P) R hr hc hcell
    refine ⟨.agg ⟨l⟩,.agg ⟨l'⟩,hk,.agg _ _ h2,?_⟩
    simp only [loadVar,Sem.run_bind,zd8 hT hi,ha,Result.andThen_ok,if_true,zaS hT hi]
    rw [← hs,← hl,h1];rfl
   ·have h':ld1 H b o fun v=>shape1 i.zero v K:=by
     revert h
     cases hz:i.zero <;> simp only [] <;> first|exact id|(intro h;exact ((hn _ hz).elim))
    obtain ⟨v,hv,h'⟩:=zh5 h'
    have hk:=zaX h'
    obtain ⟨v',h1,h2⟩:=zhr (P:=P) R hv hr hc
    refine ⟨v,v',hk,h2,?_⟩
    simp only [loadVar,Sem.run_bind,zd8 hT hi,ha,Result.andThen_ok,Bool.false_eq_true,if_false,h1]
  ·exact h.elim
 ·exact h.elim
theorem VR.ptr_inv {b o:Nat} {v':Value} (h:VR ρ (.pointer (some ⟨b,o,none⟩)) v'):∃ r,ρ b=some r∧v'=.pointer (some ⟨r.blk,r.sh+o,none⟩):=by
 cases h with
 | scalar v h=>simp [Abs.scalar] at h
 | ptr a c r h ha hc=>subst hc;exact ⟨r,h,rfl⟩
theorem VR.scalar_inv {v v':Value} (hs:Abs.scalar v=true) (h:VR ρ v v'):v'=v:=by
 cases h <;> first|rfl|(simp [Abs.scalar] at hs)
theorem VR.slice_inv {x:Addr} {n c:Nat} {v':Value} (h:VR ρ (.slice (some x) n c) v'):∃ y c',v'=.slice (some y) n c'∧SR ρ x n c y c':=by
 cases h with
 | scalar v h=>simp [Abs.scalar] at h
 | slice a c l cap cap' h=>exact ⟨_,_,rfl,h⟩
theorem VR.agg_inv {l:List Value} {v':Value} (h:VR ρ (.agg ⟨l⟩) v'):∃ l',v'=.agg ⟨l'⟩∧VRs ρ l l':=by
 cases h with
 | scalar v h=>simp [Abs.scalar] at h
 | agg xs xs' h=>exact ⟨_,rfl,h⟩
theorem VR.tuple_inv {l:List Value} {v':Value} (h:VR ρ (.tuple ⟨l⟩) v'):∃ l',v'=.tuple ⟨l'⟩∧VRs ρ l l':=by
 cases h with
 | scalar v h=>simp [Abs.scalar] at h
 | tuple xs xs' h=>exact ⟨_,rfl,h⟩
theorem VR.func_inv {f:FuncId} {x y:List Value} {v':Value} (h:VR ρ (.func (.func f) ⟨x⟩ ⟨y⟩) v'):∃ x' y',v'=.func (.func f) ⟨x'⟩ ⟨y'⟩∧VRs ρ x x'∧VRs ρ y y':=by
 cases h with
 | scalar v h=>simp [Abs.scalar] at h
 | func _ _ _ _ _ h1 h2=>exact ⟨_,_,rfl,h1,h2⟩
theorem VR.int_inv {k:IntKind} {n:Int} {v':Value} (h:VR ρ (.int k n) v'):v'=.int k n:=VR.scalar_inv rfl h
theorem VR.bool_inv {n:Bool} {v':Value} (h:VR ρ (.bool n) v'):v'=.bool n:=VR.scalar_inv rfl h
theorem VR.str_inv {n:ByteArray} {v':Value} (h:VR ρ (.string n) v'):v'=.string n:=VR.scalar_inv rfl h
end
end Go.Abs
/- Every operation that reads or reckons: the model gives what the abstract one gives. -/
namespace Go.Abs
open Go.RowKit
section
variable {P:Program} {T:TT} {G:Nat} {w0 w:World} {ρ:Loc} {H:AHeap} {env:Env} {a:Act}

def Gives (P:Program) (ρ:Loc) (w:World) (s:Sem Value) (K:Value→Prop):Prop:=
 ∃ v v',K v∧VR ρ v v'∧s.run P w=.ok v' w
theorem zcV {op:BinOp} {k:IntKind} {x y:Int} {K:Value→Prop} (h:bitsOf op k x y K):Gives P ρ w (Op.intBits op k x y) K:=by
 cases op <;> simp only [bitsOf] at h <;> first|exact h.elim|exact ⟨_,_,h,.scalar _ rfl,rfl⟩
theorem zhG {op:BinOp} {k k':IntKind} {x y:Int} {K:Value→Prop} (h:shiftK op k x y K):Gives P ρ w (Op.shift op k x k' y) K:=by
 cases op <;> simp only [shiftK] at h <;> first|exact h.elim|skip
 ·exact ⟨_,_,h.2,.scalar _ rfl,by simp [Op.shift,Int.not_lt.2 h.1]⟩
 ·exact ⟨_,_,h.2,.scalar _ rfl,by simp [Op.shift,Int.not_lt.2 h.1]⟩
theorem zhO {y:Int} {K:Prop} (h:nzK y K):y≠0∧K:=by
 rcases zat h with ⟨h1,h2⟩|⟨_,h⟩
 ·exact ⟨by simpa using h1,h2⟩
 ·exact h.elim
theorem zuf (op:BinOp) (t:TypeId) (k:IntKind) (x y:Int) (h1:op≠.shl) (h2:op≠.shr):binOp op t (.int k x) (.int k y) =
 (match op with
 | .add|.sub|.mul=>Op.intArith op k x y
 | .quo|.rem=>Op.intDiv op k x y
 | .and|.or|.xor|.andNot=>Op.intBits op k x y
 | _=>Op.intCmp op x y):=by
 cases op <;> first|exact absurd rfl h1|exact absurd rfl h2|simp [binOp]
theorem zrC {op:BinOp} {t:TypeId} {k:IntKind} {x y:Int} {K:Value→Prop} (h1:op≠.shl) (h2:op≠.shr) (h:intK op k x y K):Gives P ρ w (binOp op t (.int k x) (.int k y)) K:=by
 rw [zuf op t k x y h1 h2]
 cases op <;> simp only [intK] at h
 case quo=>obtain ⟨h0,h⟩:=zhO h;exact ⟨_,_,h,.scalar _ rfl,by simp [Op.intDiv,h0]⟩
 case rem=>obtain ⟨h0,h⟩:=zhO h;exact ⟨_,_,h,.scalar _ rfl,by simp [Op.intDiv,h0]⟩
 case and=>exact zcV h
 case or=>exact zcV h
 case xor=>exact zcV h
 case andNot=>exact zcV h
 all_goals first|exact ⟨_,_,h,.scalar _ rfl,rfl⟩|exact h.elim
theorem zqv {op:BinOp} {t:TypeId} {x y:ByteArray} {K:Value→Prop} (h:strK op x y K):Gives P ρ w (binOp op t (.string x) (.string y)) K:=by
 cases op <;> simp only [strK] at h <;> first|exact h.elim|skip
 ·refine ⟨_,_,h.2,.scalar _ rfl,?_⟩
  have:=h.1
  simp only [binOp,Op.stringOp]
  rw [if_neg (by simp [IntKind.max,IntKind.bits,IntKind.signed];omega)]
  rfl
 all_goals exact ⟨_,_,h,.scalar _ rfl,rfl⟩
theorem zlR (hT:TT.ok P T) {t:TypeId} {i:TI} (hi:T t=some i) (hd:i.desc=.bool) (x y:Bool) (u v:Operand) :
 (do eqGuard .eql t u v (.bool x) (.bool y);binOp .eql t (.bool x) (.bool y)).run P w=.ok (.bool (x==y)) w:=by
 have:=run_equal_bool (P:=P) w t x y (by rw [← hd];exact (hT t i hi).1)
 simp [eqGuard_at_bool,binOp,this]
theorem zmp (hT:TT.ok P T) {t:TypeId} {i:TI} (hi:T t=some i) (hd:i.desc=.bool) (x y:Bool) (u v:Operand) :
 (do eqGuard .neq t u v (.bool x) (.bool y);binOp .neq t (.bool x) (.bool y)).run P w=.ok (.bool (!(x==y))) w:=by
 have:=run_equal_bool (P:=P) w t x y (by rw [← hd];exact (hT t i hi).1)
 simp [eqGuard_at_bool,binOp,this]
theorem zgA (hT:TT.ok P T) {t:TypeId} {i:TI} {e:TypeId} (hi:T t=some i) (hd:i.desc=.slice e) (x:Option Addr) (n c:Nat) (u v:Operand) :
 (do eqGuard .eql t u v (.slice x n c) (.slice none 0 0);binOp .eql t (.slice x n c) (.slice none 0 0)).run P w=.ok (.bool x.isNone) w:=by
 have h:=run_equal_slice_nil (P:=P) w t e x n c (by rw [← hd];exact (hT t i hi).1)
 simp only [eqGuard_at_slice,pure_bind,binOp,Sem.run_bind,h,Result.andThen_ok];rfl
theorem zgo (hT:TT.ok P T) {t:TypeId} {i:TI} {e:TypeId} (hi:T t=some i) (hd:i.desc=.slice e) (x:Option Addr) (n c:Nat) (u v:Operand) :
 (do eqGuard .neq t u v (.slice x n c) (.slice none 0 0);binOp .neq t (.slice x n c) (.slice none 0 0)).run P w=.ok (.bool (!x.isNone)) w:=by
 have h:=run_equal_slice_nil (P:=P) w t e x n c (by rw [← hd];exact (hT t i hi).1)
 simp only [eqGuard_at_slice,pure_bind,binOp,Sem.run_bind,h,Result.andThen_ok];rfl
theorem zdS (hT:TT.ok P T) {op:BinOp} (hop:op=.eql∨op=.neq) {t e:TypeId} {i ti:TI} (hi:T t=some i) (hd:i.desc=.array 2 e) (he:T e=some ti) (hde:ti.desc=.int .i64) (hsz:ti.size=1)
 (x y z u:Int) (p q:Operand):(eqGuard op t p q (.agg #[.int .i64 x,.int .i64 y]) (.agg #[.int .i64 z,.int .i64 u])).run P w=.ok () w:=by
 have h:(underlying t).run P w=.ok (.array 2 e) w:=by rw [zal hT hi,hd]
 have h2:(underlying e).run P w=.ok (.int .i64) w:=by rw [zal hT he,hde]
 have h3:(sizeOf e).run P w=.ok 1 w:=by rw [zaS hT he,hsz]
 have h4:(isAgg e).run P w=.ok false w:=by rw [zd8 hT he];simp [TI.isAgg,hde]
 have key:∀ d,(Op.eqGuardIn (d+1+1) t (.agg #[.int .i64 x,.int .i64 y]) (.agg #[.int .i64 z,.int .i64 u])).run P w=.ok false w:=by
  intro d
  simp [Op.eqGuardIn,h,h2,h3,part,h4,Std.Legacy.Range.forIn_eq_forIn_range',Std.Legacy.Range.size,List.range']
 have key2:=key 9998
 rcases hop with rfl|rfl <;>
 ·simp only [eqGuard,bne_self_eq_false,Bool.false_eq_true,if_false,Bool.not_true]
  simp only [Sem.run_bind,run_program,Result.andThen_ok,pure_bind,Bool.not_false,Bool.not_eq_true']
  split
  ·rfl
  ·rw [show Op.maxDepth=9998+1+1 from rfl]
   simp only [Sem.run_bind,key2,Result.andThen_ok]
   rfl
theorem zey (hT:TT.ok P T) {t e:TypeId} {i ti:TI} (hi:T t=some i) (hd:i.desc=.array 2 e) (he:T e=some ti) (hde:ti.desc=.int .i64) (hsz:ti.size=1)
 (x y z u:Int):(Op.equal t (.agg #[.int .i64 x,.int .i64 y]) (.agg #[.int .i64 z,.int .i64 u])).run P w=.ok ((x==z)&&(y==u)) w:=by
 have h:(underlying t).run P w=.ok (.array 2 e) w:=by rw [zal hT hi,hd]
 have h2:(underlying e).run P w=.ok (.int .i64) w:=by rw [zal hT he,hde]
 have h3:(sizeOf e).run P w=.ok 1 w:=by rw [zaS hT he,hsz]
 have h4:(isAgg e).run P w=.ok false w:=by rw [zd8 hT he];simp [TI.isAgg,hde]
 have key:∀ d,(Op.equalIn (d+1+1) t (.agg #[.int .i64 x,.int .i64 y]) (.agg #[.int .i64 z,.int .i64 u])).run P w=.ok ((x==z)&&(y==u)) w:=by
  intro d
  have e1:∀ x z:Int,_:=fun x z=>run_equalIn_int (P:=P) w d e .i64 .i64 x z (by rw [← hde];exact (hT e ti he).1)
  unfold Op.equalIn
  by_cases h5:x=z <;> by_cases h6:y=u <;>
   simp [h,h3,part,h4,Std.Legacy.Range.forIn_eq_forIn_range',Std.Legacy.Range.size,List.range',h5,h6,e1]
 exact key 9998
theorem zga {v u:List Value} {K:Bool→Prop} (h:eq2K v u K):∃ x y z t:Int,v=[.int .i64 x,.int .i64 y]∧u=[.int .i64 z,.int .i64 t]∧K ((x==z)&&(y==t)):=by
 unfold eq2K at h;split at h
 ·exact ⟨_,_,_,_,rfl,rfl,h⟩
 ·exact h.elim
theorem VRs.two {x y:Int} {l:List Value} (h:VRs ρ [.int .i64 x,.int .i64 y] l):l=[.int .i64 x,.int .i64 y]:=by
 cases h with
 | cons _ _ _ _ h t=>cases t with
  | cons _ _ _ _ h2 t=>cases t with
   | nil=>rw [h.int_inv,h2.int_inv]
theorem zi8 {op:BinOp} {b:Bool} {K:Value→Prop} (h:eqOp op b K):(op=.eql∧K (.bool b))∨(op=.neq∧K (.bool (!b))):=by
 cases op <;> first|exact .inl ⟨rfl,h⟩|exact .inr ⟨rfl,h⟩|exact h.elim
theorem zfj (hT:TT.ok P T) {op:BinOp} {t:TypeId} {v u v' u':Value} (p q:Operand) {K:Value→Prop} (hv:VR ρ v v') (hu:VR ρ u u') (h:binK T op t v u K) :
 Gives P ρ w (do eqGuard op t p q v' u';binOp op t v' u') K:=by
 unfold binK at h
 split at h
 ·rename_i k x k' y
  rw [hv.int_inv,hu.int_inv]
  by_cases h1:op=.shl
  ·subst h1
   obtain ⟨v,v',h1,h2,h3⟩:=zhG (P:=P) (ρ:=ρ) (w:=w) (k':=k') (show shiftK .shl k x y K from h);exact ⟨v,v',h1,h2,by simpa [eqGuard,binOp] using h3⟩
  by_cases h2:op=.shr
  ·subst h2
   obtain ⟨v,v',h1,h2,h3⟩:=zhG (P:=P) (ρ:=ρ) (w:=w) (k':=k') (show shiftK .shr k x y K from h);exact ⟨v,v',h1,h2,by simpa [eqGuard,binOp] using h3⟩
  have h':pif (decide (k=k')) (intK op k x y K) False:=by
   revert h
   cases op <;> first|exact absurd rfl h1|exact absurd rfl h2|exact id
  rcases zat h' with ⟨hk,h3⟩|⟨_,h3⟩
  ·obtain rfl:=of_decide_eq_true hk
   obtain ⟨v,v',g1,g2,g3⟩:=zrC (P:=P) (ρ:=ρ) (w:=w) (t:=t) h1 h2 h3
   exact ⟨v,v',g1,g2,by simpa [eqGuard_at_int] using g3⟩
  ·exact h3.elim
 ·rw [hv.str_inv,hu.str_inv]
  obtain ⟨v,v',h1,h2,h3⟩:=zqv (P:=P) (ρ:=ρ) (w:=w) (t:=t) h
  exact ⟨v,v',h1,h2,by simpa [eqGuard_at_string] using h3⟩
 ·rw [hv.bool_inv,hu.bool_inv]
  split at h
  ·rename_i hi
   rcases zi8 h with ⟨rfl,h⟩|⟨rfl,h⟩
   ·exact ⟨_,_,h,.scalar _ rfl,zlR hT hi rfl _ _ p q⟩
   ·exact ⟨_,_,h,.scalar _ rfl,zmp hT hi rfl _ _ p q⟩
  ·exact h.elim
 ·split at h
  ·rename_i hi
   split at h
   ·rename_i he
    obtain ⟨x,y,z,s,rfl,rfl,h⟩:=zga h
    obtain ⟨l1,rfl,g1⟩:=hv.agg_inv
    obtain ⟨l2,rfl,g2⟩:=hu.agg_inv
    rw [g1.two,g2.two]
    rcases zi8 h with ⟨rfl,h⟩|⟨rfl,h⟩
    ·refine ⟨_,_,h,.scalar _ rfl,?_⟩
     rw [Sem.run_bind,zdS hT (.inl rfl) hi rfl he rfl rfl]
     simp only [Result.andThen_ok,binOp,Sem.run_bind,zey hT hi rfl he rfl rfl]
     rfl
    ·refine ⟨_,_,h,.scalar _ rfl,?_⟩
     rw [Sem.run_bind,zdS hT (.inr rfl) hi rfl he rfl rfl]
     simp only [Result.andThen_ok,binOp,Sem.run_bind,zey hT hi rfl he rfl rfl]
     rfl
   ·exact h.elim
  ·exact h.elim
 ·exact h.elim
theorem zfW {v:Value} {K:Bool→Prop} (h:isNilK v K):∃ a n c,v=.slice a n c∧K a.isNone:=by
 unfold isNilK at h;split at h
 ·exact ⟨_,_,_,rfl,h⟩
 ·exact h.elim
theorem zkZ {u:Value} (h:isNilSlice u=true):u=.slice none 0 0:=by
 unfold isNilSlice at h;split at h
 ·rfl
 ·cases h
theorem zmg (hT:TT.ok P T) {op:BinOp} {t:TypeId} {v v':Value} (p q:Operand) {K:Value→Prop} (hv:VR ρ v v') (h:nilCmp T op t v K) :
 Gives P ρ w (do eqGuard op t p q v' (.slice none 0 0);binOp op t v' (.slice none 0 0)) K:=by
 unfold nilCmp at h
 split at h
 ·rename_i hi
  obtain ⟨a,n,c,rfl,h⟩:=zfW h
  rcases zi8 h with ⟨rfl,h⟩|⟨rfl,h⟩
  ·cases hv with
   | scalar _ hs=>exact ⟨_,_,h,.scalar _ rfl,zgA hT hi rfl _ _ _ p q⟩
   | slice a c' len cap cap' hs=>exact ⟨_,_,h,.scalar _ rfl,by rw [zgA hT hi rfl];rfl⟩
  ·cases hv with
   | scalar _ hs=>exact ⟨_,_,h,.scalar _ rfl,zgo hT hi rfl _ _ _ p q⟩
   | slice a c' len cap cap' hs=>exact ⟨_,_,h,.scalar _ rfl,by rw [zgo hT hi rfl];rfl⟩
 ·exact h.elim
theorem ztD {op:UnOp} {v v':Value} {K:Value→Prop} (hv:VR ρ v v') (h:unK op v K):Gives P ρ w (Op.unary op v') K:=by
 unfold unK at h
 split at h
 ·rw [hv.bool_inv];exact ⟨_,_,h,.scalar _ rfl,rfl⟩
 ·rw [hv.int_inv];exact ⟨_,_,h,.scalar _ rfl,rfl⟩
 ·rw [hv.int_inv];exact zcV h
 ·exact h.elim
end
end Go.Abs
/- Every operation that reads or reckons, taken together. -/
namespace Go.Abs
open Go.RowKit
section
variable {P:Program} {T:TT} {G:Nat} {w0 w:World} {ρ:Loc} {H:AHeap} {env:Env} {a:Act}

theorem zoX (hT:TT.ok P T) {s d:TypeId} {v v':Value} {K:Value→Prop} (hs:∃ i,T s=some i) (hv:VR ρ v v') (h:convK T d v K):Gives P ρ w (convert s d v') K:=by
 obtain ⟨si,hs⟩:=hs
 unfold convK at h
 split at h
 ·rename_i k sz by_ z n hd
  rw [hv.int_inv]
  refine ⟨_,_,h,.scalar _ rfl,?_⟩
  have e1:=zal (w:=w) hT hs
  have e2:=zal (w:=w) hT hd
  simp only [convert,Sem.run_bind,e1,e2,Result.andThen_ok]
  cases si.desc <;> rfl
 ·rename_i sz by_ z n hd
  rw [hv.str_inv]
  refine ⟨_,_,h,.scalar _ rfl,?_⟩
  have e1:=zal (w:=w) hT hs
  have e2:=zal (w:=w) hT hd
  simp only [convert,Sem.run_bind,e1,e2,Result.andThen_ok]
  cases si.desc <;> rfl
 ·exact h.elim
theorem zsT {v:Value} (h:v.oneCell'=true):v.cells.toList=[v]:=by cases v <;> first|rfl|(simp [Value.oneCell'] at h)
theorem zeA {z v:Value} {K:List Value→Prop} (h:cellsOf z v K):K v.cells.toList:=by
 unfold cellsOf at h
 split at h
 ·obtain ⟨l,rfl,hk⟩:=zbD h;exact hk
 ·rcases zat h with ⟨h1,h⟩|⟨_,h⟩
  ·rw [zsT h1];exact h
  ·exact h.elim
theorem zvS (l:List Value):∀ (k off:Nat) (cs:Array Value),off+k+l.length≤cs.size→
 ((l.zipIdx k).foldl (fun cs (x:Value × Nat)=>cs.setIfInBounds (off+x.2) x.1) cs).toList=cs.toList.take (off+k)++l++cs.toList.drop (off+k+l.length):=by
 induction l with
 | nil=>intro k off cs h;simp
 | cons v l ih=>
  intro k off cs h
  simp only [List.zipIdx_cons,List.foldl_cons]
  rw [ih (k+1) off _ (by simp at h ⊢;omega)]
  have hb:off+k<cs.toList.length:=by simp at h ⊢;omega
  simp only [Array.toList_setIfInBounds,List.length_cons]
  rw [show off+(k+1)=off+k+1 by omega,show off+k+(l.length+1)=off+k+1+l.length by omega]
  rw [List.take_add_one,List.getElem?_set_self (by simpa using hb),List.take_set_of_le (by omega),List.drop_set_of_lt (by omega)]
  simp
theorem zfi (place:Nat→Option (Nat × TypeId)) (place':Nat→Option (Nat × Nat)) (hp:∀ i off t,place i=some (off,t)→∃ ti,T t=some ti∧place' i=some (off,ti.size)) :
 ∀ (parts:List (Nat × Value)) (parts':List (Nat × Value)) (cs cs':List Value) (K:List Value→Prop),parts.map (·.1)=parts'.map (·.1)→VRs ρ (parts.map (·.2)) (parts'.map (·.2))→VRs ρ cs cs'→
  fillK T place parts cs K→∃ r r',K r∧VRs ρ r r'∧Instr.fill place' ⟨cs'⟩ parts'=some ⟨r'⟩
 | [],[],cs,cs',K,_,_,hc,h=>⟨cs,cs',h,hc,rfl⟩
 | [],_::_,_,_,_,h,_,_,_=>by simp at h
 | _::_,[],_,_,_,h,_,_,_=>by simp at h
 | (i,v)::rest,(j,v')::rest',cs,cs',K,hi,hv,hc,h=>by
  simp at hi
  obtain ⟨rfl,hi⟩:=hi
  cases hv with
  | cons _ _ _ _ hv1 hv2=>
  unfold fillK at h
  split at h
  ·rename_i off t hpl
   obtain ⟨ti,ht,hpl'⟩:=hp _ _ _ hpl
   simp only [ht] at h
   rcases zat h with ⟨hf,h⟩|⟨_,h⟩
   ·have h:=zeA h
    have hvs:=hv1.cells
    generalize v.cells.toList=vs at h hvs
    rcases zat h with ⟨hd,h⟩|⟨_,h⟩
    ·obtain ⟨hd1,hd2⟩:=of_decide_eq_true hd
     have hl:=hvs.length
     have hl2:=hc.length
     unfold Instr.fill
     simp only [hpl']
     rw [if_neg (by simp at hl ⊢;omega)]
     obtain ⟨r,r',g1,g2,g3⟩:=zfi place place' hp rest rest' _ (cs'.take off++v'.cells.toList++cs'.drop (off+vs.length)) K hi hv2 (((hc.take off).append hvs).append (hc.drop _)) h
     refine ⟨r,r',g1,g2,?_⟩
     rw [← g3]
     congr 1
     apply Array.ext'
     have:=zvS v'.cells.toList 0 off ⟨cs'⟩ (by simp at hl ⊢;omega)
     simp only [Nat.add_zero] at this
     rw [← Array.foldl_toList]
     simp only [Array.toList_zipIdx]
     rw [this]
     simp [hl]
    ·exact h.elim
   ·exact h.elim
  ·exact h.elim
end
end Go.Abs
namespace Go.Abs
open Go.RowKit
section
variable {P:Program} {T:TT} {G:Nat} {w0 w:World} {ρ:Loc} {H:AHeap} {env:Env} {a:Act}

theorem zjo (hT:TT.ok P T) (f:Nat→Option (Nat × TypeId)):∀ (fs:List Field),(∀ (i:Nat) fl,fs[i]?=some fl→∃ ti,T fl.type=some ti)→
 ∃ r:List (Nat × Nat),(fs.mapM (fun f:Field=>(do pure (f.offset,← sizeOf f.type):Sem (Nat × Nat)))).run P w=.ok r w∧r.length=fs.length∧∀ (i:Nat) fl ti,fs[i]?=some fl→T fl.type=some ti→r[i]?=some (fl.offset,ti.size)
 | [],_=>⟨[],by simp [List.mapM_nil],rfl,by simp⟩
 | fl::fs,h=>by
  obtain ⟨ti,hti⟩:=h 0 fl (by simp)
  obtain ⟨r,h1,h2,h3⟩:=zjo hT f fs (fun i fl hf=>h (i+1) fl (by simpa using hf))
  refine ⟨(fl.offset,ti.size)::r,?_,by simp [h2],?_⟩
  ·simp only [List.mapM_cons,Sem.run_bind,zaS hT hti,Result.andThen_ok,Sem.run_pure,h1]
  ·intro i g tj hg htj
   cases i with
   | zero=>simp at hg;subst hg;rw [hti] at htj;obtain rfl:=Option.some.inj htj;simp
   | succ i=>simp at hg;simpa using h3 i g tj hg htj
theorem zoK (hT:TT.ok P T) {t:TypeId} {i:TI} (hi:T t=some i) (hf:i.fine=true) (hft:fieldsTold T i=true) (parts parts':List (Nat × Value)) (K:List Value→Prop) (zs:List Value) (hz:i.zero=.agg ⟨zs⟩)
 (hzs:zs.all scalar=true) (h1:parts.map (·.1)=parts'.map (·.1)) (h2:VRs ρ (parts.map (·.2)) (parts'.map (·.2))) (h:fillK T (placeOf i.desc T) parts zs K) :
 Gives P ρ w (Instr.build t ⟨parts'⟩) (fun v=>∃ l,v=.agg ⟨l⟩∧K l):=by
 have hu:=zal (w:=w) hT hi
 have hzr:=zbv (w:=w) hT hi
 cases hd:i.desc with
 | struct fs=>
  have hft':∀ (j:Nat) fl,fs.toList[j]?=some fl→∃ ti,T fl.type=some ti:=by
   intro j fl hj
   simp only [fieldsTold,hd,List.all_eq_true] at hft
   exact Option.isSome_iff_exists.1 (hft fl (List.mem_of_getElem? hj))
  obtain ⟨r,hr1,hr2,hr3⟩:=zjo (w:=w) hT (placeOf i.desc T) fs.toList hft'
  have hplace:∀ j off tt,placeOf i.desc T j=some (off,tt)→∃ ti,T tt=some ti∧(fun j=>r[j]?) j=some (off,ti.size):=by
   intro j off tt hj
   simp only [placeOf,hd,Option.map_eq_some_iff] at hj
   obtain ⟨fl,hfl,e⟩:=hj
   obtain ⟨ti,hti⟩:=hft' j fl hfl
   obtain ⟨rfl,rfl⟩:=Prod.mk.inj e
   exact ⟨ti,hti,hr3 j fl ti hfl hti⟩
  obtain ⟨q,q',g1,g2,g3⟩:=zfi (ρ:=ρ) _ _ hplace parts parts' zs zs K h1 h2 (VRs.scalars hzs) h
  refine ⟨.agg ⟨q⟩,.agg ⟨q'⟩,⟨q,rfl,g1⟩,.agg _ _ g2,?_⟩
  have hm:(fs.mapM (fun f:Field=>(do pure (f.offset,← sizeOf f.type):Sem (Nat × Nat)))).run P w=.ok r.toArray w:=by
   rw [← Array.toArray_toList (xs:=fs),List.mapM_toArray,Sem.run_map,hr1];rfl
  simp only [Instr.build,Sem.run_bind,hzr,hz,Result.andThen_ok,hu,hd,hm]
  have:(fun j:Nat=>r.toArray[j]?)=fun j:Nat=>r[j]?:=by funext j;simp
  simp only [Value.cells,this,g3]
  rfl
 | array n e=>
  cases hte:T e with
  | none=>simp [fieldsTold,hd,hte] at hft
  | some ti=>
   have hs:=zaS (w:=w) hT hte
   have hplace:∀ j off tt,placeOf i.desc T j=some (off,tt)→∃ ti',T tt=some ti'∧(fun j=>some (j*ti.size,ti.size)) j=some (off,ti'.size):=by
    intro j off tt hj
    simp only [placeOf,hd,hte,Option.map_some,Option.some.injEq] at hj
    obtain ⟨rfl,rfl⟩:=Prod.mk.inj hj
    exact ⟨ti,hte,rfl⟩
   obtain ⟨q,q',g1,g2,g3⟩:=zfi (ρ:=ρ) _ _ hplace parts parts' zs zs K h1 h2 (VRs.scalars hzs) h
   refine ⟨.agg ⟨q⟩,.agg ⟨q'⟩,⟨q,rfl,g1⟩,.agg _ _ g2,?_⟩
   simp only [Instr.build,Sem.run_bind,hzr,hz,Result.andThen_ok,hu,hd,hs,Value.cells,g3]
   rfl
 | _=>simp [TI.fine,hd,hz] at hf
theorem zja (hT:TT.ok P T) {t:TypeId} {cs cs':List Value} {off:Nat} {K:Value→Prop} (hc:VRs ρ cs cs') (h:partK T t cs off K):Gives P ρ w (part t ⟨cs'⟩ off) K:=by
 unfold partK at h
 split at h
 ·rename_i i hi
  rcases zat h with ⟨hf,h⟩|⟨_,h⟩
  ·rcases zlD hf with ⟨zs,hz,hs,ha⟩|⟨hn,hn2,hs,ha⟩
   ·simp only [hz] at h
    rcases zat h with ⟨hd,h⟩|⟨_,h⟩
    ·refine ⟨_,.agg ⟨(cs'.drop off).take i.size⟩,h,.agg _ _ ((hc.drop off).take _),?_⟩
     simp only [part,Sem.run_bind,zd8 hT hi,ha,Result.andThen_ok,if_true,zaS hT hi,Sem.run_pure]
     congr 2
     apply Array.ext'
     simp [Array.toList_extract,List.extract]
    ·exact h.elim
   ·have h':atK cs off K:=by
     revert h
     cases hz:i.zero <;> simp only [] <;> first|exact id|(intro h;exact ((hn _ hz).elim))
    unfold atK at h'
    split at h'
    ·rename_i v hv
     obtain ⟨v',e,r⟩:=hc.get _ _ hv
     refine ⟨v,v',h',r,?_⟩
     simp only [part,Sem.run_bind,zd8 hT hi,ha,Result.andThen_ok,Bool.false_eq_true,if_false]
     simp [e]
    ·exact h'.elim
  ·exact h.elim
 ·exact h.elim
end
end Go.Abs
/- Every operation that reads or reckons: soundness, and that a greater heap gives the same. -/
namespace Go.Abs
open Go.RowKit
section
variable {P:Program} {T:TT} {G:Nat} {w0 w:World} {ρ:Loc} {H:AHeap} {env:Env} {a:Act}

theorem zgV (hT:TT.ok P T) {t e:TypeId} {i ti:TI} (hi:T t=some i) (hd:i.desc=.slice e) (he:T e=some ti) {k:IntKind} {n:Int} {c:Addr} {m cap:Nat} (h0:0≤n) (h1:n<(m:Int)) :
 (Instr.indexAt t (.slice (some c) m cap) (.int k n)).run P w=.ok (.pointer (some (c.add (n.toNat*ti.size)))) w:=by
 have hu:=zal (w:=w) hT hi
 have hs:=zaS (w:=w) hT he
 simp only [Instr.indexAt,asIntOf,Sem.run_bind,Sem.run_pure,Result.andThen_ok,hu,hd,pure_bind]
 rw [if_pos ⟨h0,h1⟩]
 simp [hs]
theorem zg8 (hT:TT.ok P T) {t e:TypeId} {i ti:TI} {len:Nat} (hi:T t=some i) (hd:i.desc=.array len e) (he:T e=some ti) {k:IntKind} {n:Int} {c:Addr} (h0:0≤n) (h1:n<(len:Int)) :
 (Instr.indexAt t (.pointer (some c)) (.int k n)).run P w=.ok (.pointer (some (c.add (n.toNat*ti.size)))) w:=by
 have hu:=zal (w:=w) hT hi
 have hs:=zaS (w:=w) hT he
 simp only [Instr.indexAt,asIntOf,Sem.run_bind,Sem.run_pure,Result.andThen_ok,hu,hd,pure_bind,Instr.sureAddr]
 rw [if_pos ⟨h0,h1⟩]
 simp [hs]
theorem zh6 (hT:TT.ok P T) {t e:TypeId} {i ti:TI} {len:Nat} (hi:T t=some i) (hd:i.desc=.array len e) (he:T e=some ti) {k:IntKind} {n:Int} {cs:Array Value} (h0:0≤n) (h1:n<(len:Int)) :
 (Instr.index t (.agg cs) (.int k n)).run P w=(part e cs (n.toNat*ti.size)).run P w:=by
 have hu:=zal (w:=w) hT hi
 have hs:=zaS (w:=w) hT he
 simp only [Instr.index,asIntOf,Sem.run_bind,Sem.run_pure,Result.andThen_ok,hu,hd]
 rw [if_pos ⟨h0,h1⟩]
 simp [hs]
theorem zhK (hT:TT.ok P T) {t:TypeId} {i:TI} (hi:T t=some i) (hd:i.desc=.string) {k:IntKind} {n:Int} {s:ByteArray} (h0:0≤n) (h1:n<(s.size:Int)) :
 (Instr.index t (.string s) (.int k n)).run P w=.ok (.int .u8 (s.data.toList.getD n.toNat 0).toNat) w:=by
 have hu:=zal (w:=w) hT hi
 simp only [Instr.index,asIntOf,Sem.run_bind,Sem.run_pure,Result.andThen_ok,hu,hd,if_pos h0]
 have hlt:n.toNat<s.data.size:=by have:=h1;rw [show s.size=s.data.size from rfl] at this;omega
 have:s[n.toNat]?=some (s.data[n.toNat]):=by
  rw [getElem?_pos s n.toNat (by simpa using hlt)];rfl
 rw [this]
 simp [List.getD,hlt,Array.getElem?_eq_getElem hlt]
theorem zon (hT:TT.ok P T) {s:TypeId} {i ti:TI} {fs:Array Field} {f:Nat} {fl:Field} (hi:T s=some i) (hd:i.desc=.struct fs) (hf:fs.toList[f]?=some fl) (ht:T fl.type=some ti) (hz:ti.size≠0) (c:Addr) :
 (Instr.fieldAt s (.pointer (some c)) f).run P w=.ok (.pointer (some (c.add fl.offset))) w:=by
 have hu:=zal (w:=w) hT hi
 have hs:=zaS (w:=w) hT ht
 have hf':fs[f]?=some fl:=by simpa using hf
 simp only [Instr.fieldAt,Sem.run_bind,hu,hd,Result.andThen_ok,hf',Instr.sureAddr,Sem.run_pure,fieldPlace,hs,if_neg hz]
theorem zsl (hT:TT.ok P T) {s:TypeId} {i:TI} {fs:Array Field} {f:Nat} {fl:Field} (hi:T s=some i) (hd:i.desc=.struct fs) (hf:fs.toList[f]?=some fl) (cs:Array Value) :
 (Instr.field s (.agg cs) f).run P w=(part fl.type cs fl.offset).run P w:=by
 have hu:=zal (w:=w) hT hi
 have hf':fs[f]?=some fl:=by simpa using hf
 simp [Instr.field,hu,hd,hf',Go.asAgg]
theorem zbV {v:Option Value} {K:Int→Prop} (h:loOf v K):(v=none∧K 0)∨∃ k n,v=some (.int k n)∧K n:=by
 unfold loOf at h;split at h
 ·exact .inl ⟨rfl,h⟩
 ·split at h
  ·exact .inr ⟨_,_,rfl,h⟩
  ·exact h.elim
theorem zbT {v:Option Value} {m:Nat} {K:Int→Prop} (h:hiOf v m K):(v=none∧K m)∨∃ k n,v=some (.int k n)∧K n:=by
 unfold hiOf at h;split at h
 ·exact .inl ⟨rfl,h⟩
 ·split at h
  ·exact .inr ⟨_,_,rfl,h⟩
  ·exact h.elim
theorem zex {isSlice:Bool} {len cap:Nat} {lo hi:Option Value} {l h:Int} (hl:(lo=none∧l=0)∨∃ k,lo=some (.int k l)) (hh:(hi=none∧h=len)∨∃ k,hi=some (.int k h))
 (h0:0≤l) (h1:l≤h) (h2:h≤(len:Int)) (hc:len≤cap):(Instr.sliceBounds isSlice len cap lo hi none).run P w=.ok (l.toNat,h.toNat,cap) w:=by
 have e2:h≤(cap:Int):=by omega
 have e3:0≤h:=by omega
 rcases hh with ⟨rfl,rfl⟩|⟨k,rfl⟩ <;> rcases hl with ⟨rfl,rfl⟩|⟨k',rfl⟩ <;>
  simp [Instr.sliceBounds,Instr.sliceBound,asIntOf,h0,h1,e2,e3] <;> omega
theorem znn (hT:TT.ok P T) (R:Rel T G w0 ρ H w) {t e:TypeId} {i ti:TI} (hi:T t=some i) (hd:i.desc=.slice e) (he:T e=some ti) (hts:ti.size≠0) {v v':Value} {lo hi':Option Value}
 {K:Value→Prop} (hv:VR ρ v v') (h:sliceK H e v lo hi' ti.size K):Gives P ρ w (Instr.sliceAt t v' lo hi' none) K:=by
 have hu:=zal (w:=w) hT hi
 have hs:=zaS (w:=w) hT he
 unfold sliceK at h
 split at h
 ·rename_i b o n c
  obtain ⟨⟨cs,own,hrow,hlen⟩,h⟩:=h
  obtain ⟨y,cap',rfl,hsr⟩:=hv.slice_inv
  obtain ⟨hnc,hcz,hsr⟩:=hsr
  have hmain:∃ l hh:Int,((lo=none∧l=0)∨∃ k,lo=some (.int k l))∧((hi'=none∧hh=n)∨∃ k,hi'=some (.int k hh))∧0≤l∧l≤hh∧hh≤(n:Int)∧K (.slice (some ⟨b,o+l.toNat*ti.size,none⟩) (hh.toNat-l.toNat) (hh.toNat-l.toNat+1)):=by
   rcases zbV h with ⟨e1,h⟩|⟨k,l,e1,h⟩ <;> rcases zbT h with ⟨e2,h⟩|⟨k',hh,e2,h⟩
   ·exact ⟨_,_,.inl ⟨e1,rfl⟩,.inl ⟨e2,rfl⟩,h⟩
   ·exact ⟨_,_,.inl ⟨e1,rfl⟩,.inr ⟨_,e2⟩,h⟩
   ·exact ⟨_,_,.inr ⟨_,e1⟩,.inl ⟨e2,rfl⟩,h⟩
   ·exact ⟨_,_,.inr ⟨_,e1⟩,.inr ⟨_,e2⟩,h⟩
  obtain ⟨l,hh,e1,e2,g0,g1,g2,hk⟩:=hmain
  have hb:=zex (P:=P) (w:=w) (isSlice:=true) e1 e2 g0 g1 g2 hnc
  refine ⟨_,.slice (some (if cap'=l.toNat then y else y.add (l.toNat*ti.size))) (hh.toNat-l.toNat) (cap'-l.toNat),hk,.slice _ _ _ _ _ ⟨by omega,by omega,?_⟩,?_⟩
  ·obtain ⟨r,C,e',fr,hr,hw,hN,hcell,_,tj,htj,hsz⟩:=R.row b cs e own hrow
   rw [he] at htj
   obtain rfl:=Option.some.inj htj
   rcases hsr with ⟨hn0,hc0⟩|⟨r',hr',_,hy,hcap⟩
   ·left;omega
   ·simp only [] at hr'
    rw [hr] at hr'
    obtain rfl:=Option.some.inj hr'
    by_cases hcl:cap'=l.toNat
    ·left;omega
    ·right
     refine ⟨r,hr,rfl,?_,?_⟩
     ·rw [if_neg hcl,hy,Addr.add_eq _ rfl];simp [Nat.add_assoc]
     ·right
      show r.sh+(o+l.toNat*ti.size)+(cap'-l.toNat)*r.sz≤r.N
      rw [hsz,Nat.sub_mul]
      have hle2:l.toNat*ti.size≤cap'*ti.size:=Nat.mul_le_mul_right _ (by omega)
      rcases hcap with hcap|hcap
      ·have hn1:0<n:=by omega
       have hp:0<n*ti.size:=Nat.mul_pos hn1 (by omega)
       obtain ⟨_,v',hv',_⟩:=hcell (o+n*ti.size-1) (cs[o+n*ti.size-1]'(by omega)) (List.getElem?_eq_getElem _)
       have:r.sh+(o+n*ti.size-1)<C.size:=by
        rcases Nat.lt_or_ge (r.sh+(o+n*ti.size-1)) C.size with h|h
        ·exact h
        ·simp [Array.getElem?_eq_none h] at hv'
       rw [hcap] at hle2 ⊢
       omega
      ·simp only [hsz] at hcap
       omega
  ·simp only [Instr.sliceAt,Sem.run_bind,hu,hd,Result.andThen_ok,Instr.slice,hb,hs,Sem.run_pure]
   by_cases hcl:cap'=l.toNat
   ·rw [if_pos hcl,if_pos hcl]
   ·rw [if_neg hcl,if_neg hcl];rfl
 ·rename_i n c
  rcases zbV h with ⟨e1,h⟩|⟨k,l,e1,h⟩ <;> rcases zbT h with ⟨e2,h⟩|⟨k',hh,e2,h⟩
  all_goals
   obtain ⟨g0,g1,rfl,rfl,hk⟩:=h
   rw [hv.scalar_inv rfl]
   refine ⟨_,_,hk,.scalar _ rfl,?_⟩
   subst e1
   subst e2
   simp [Instr.sliceAt,hu,hd,Instr.slice,Instr.sliceBounds,Instr.sliceBound,asIntOf,g0,g1,hs]
 ·exact h.elim
theorem VRs.map_ev (f:Operand→Value) (g:Operand→Value):∀ {l:List Operand},(∀ x∈l,VR ρ (f x) (g x))→VRs ρ (l.map f) (l.map g)
 | [],_=>.nil
 | x::l,h=>.cons _ _ _ _ (h x (by simp)) (VRs.map_ev f g (fun y hy=>h y (by simp [hy])))
theorem zsG {f g:Operand→Value} {lo hi:Option Operand} (hlo:∀ k l,lo.map f=some (.int k l)→lo.map g=some (.int k l)) (hhi:∀ k l,hi.map f=some (.int k l)→hi.map g=some (.int k l))
 {n:Nat} {K:Int→Int→Prop} (h:loOf (lo.map f) fun l=>hiOf (hi.map f) n fun h=>K l h):(loOf (lo.map g) fun l=>hiOf (hi.map g) n fun h=>K l h):=by
 rcases zbV h with ⟨e1,h2⟩|⟨k,l,e1,h2⟩ <;> rcases zbT h2 with ⟨e2,h3⟩|⟨k',hh,e2,h3⟩
 ·simp at e1 e2;subst e1;subst e2;exact h3
 ·simp at e1;subst e1;rw [hhi _ _ e2];exact h3
 ·simp at e2;subst e2;rw [hlo _ _ e1];exact h3
 ·rw [hlo _ _ e1,hhi _ _ e2];exact h3
theorem znA (hT:TT.ok P T) (R:Rel T G w0 ρ H w) {o:Oper} (hv:∀ x∈o.op.operands,VR ρ (aev env x) (a.eval x)) {K:Value→Prop} (h:aRd T o.op (aev env) H K) :
 ∃ v v',K v∧VR ρ v v'∧(execOp a.eval o).run P w=.ok (.value v') w:=by
 have lift:∀ {s:Sem Value} {K:Value→Prop},Gives P ρ w s K→execOp a.eval o=(do pure (.value (← s)))→∃ v v',K v∧VR ρ v v'∧(execOp a.eval o).run P w=.ok (.value v') w:=by
  intro s K hg he
  obtain ⟨v,v',h1,h2,h3⟩:=hg
  exact ⟨v,v',h1,h2,by rw [he];simp [h3]⟩
 obtain ⟨dst,op,type,pos,after,guard⟩:=o
 cases op
 case move x=>exact ⟨_,_,h,hv x (by simp [Op.operands]),rfl⟩
 case assign x=>exact ⟨_,_,h,hv x (by simp [Op.operands]),rfl⟩
 case pick c x y=>
  obtain ⟨b,hb,h⟩:=zc9 h
  have hc:=hv c (by simp [Op.operands])
  rw [hb] at hc
  have hc:=hc.bool_inv
  rcases zat h with ⟨rfl,h⟩|⟨rfl,h⟩
  ·exact ⟨_,_,h,hv x (by simp [Op.operands]),by simp [execOp,hc,asBool]⟩
  ·exact ⟨_,_,h,hv y (by simp [Op.operands]),by simp [execOp,hc,asBool]⟩
 case load t p=>
  obtain ⟨b,o,hb,h⟩:=zbS h
  have hc:=hv p (by simp [Op.operands])
  rw [hb] at hc
  obtain ⟨r,hr,hc⟩:=hc.ptr_inv
  obtain ⟨v,v',h1,h2,h3⟩:=znK hT R h hr rfl
  exact ⟨v,v',h1,h2,by simp [execOp,hc,Instr.loadAt,Instr.sureAddr,h3]⟩
 case nilCheck x=>
  have hc:=hv x (by simp [Op.operands])
  simp only [aRd,nilK] at h
  split at h
  ·rename_i b o hb
   rw [hb] at hc
   obtain ⟨r,hr,hc'⟩:=hc.ptr_inv
   exact ⟨_,_,h,by rw [hc'] at hc;exact hc,by simp [execOp,hc']⟩
  ·rename_i f xs ys hb
   rw [hb] at hc
   obtain ⟨x',y',hc',_⟩:=VR.func_inv (x:=xs.toList) (y:=ys.toList) hc
   exact ⟨_,_,h,by rw [hc'] at hc;exact hc,by simp [execOp,hc']⟩
  ·exact h.elim
 case binOp op t x y u=>
  have h1:=hv x (by simp [Op.operands])
  have h2:=hv y (by simp [Op.operands])
  cases y with
  | const v=>
   simp only [aRd] at h
   rcases zat h with ⟨hn,h⟩|⟨_,h⟩
   ·have:=zkZ hn
    subst this
    exact lift (zmg hT x _ h1 h) rfl
   ·exact lift (zfj hT x _ h1 h2 h) rfl
  | tmp t=>exact lift (zfj hT x _ h1 h2 h) rfl
  | global g=>exact lift (zfj hT x _ h1 h2 h) rfl
  | func f=>exact lift (zfj hT x _ h1 h2 h) rfl
 case unOp op t x=>exact lift (ztD (hv x (by simp [Op.operands])) h) rfl
 case convert s d x=>
  rcases zat h with ⟨hs,h⟩|⟨_,h⟩
  ·exact lift (zoX hT (Option.isSome_iff_exists.1 hs) (hv x (by simp [Op.operands])) h) rfl
  ·exact h.elim
 case makeFunc fn xs ys=>
  cases fn <;> first|exact h.elim|skip
  refine ⟨_,.func _ (xs.map a.eval) (ys.map a.eval),h,?_,rfl⟩
  have e1:=VRs.map_ev (ρ:=ρ) (aev env) a.eval (l:=xs.toList) (fun x hx=>hv x (by simp [Op.operands];exact .inl (by simpa using hx)))
  have e2:=VRs.map_ev (ρ:=ρ) (aev env) a.eval (l:=ys.toList) (fun x hx=>hv x (by simp [Op.operands];exact .inr (by simpa using hx)))
  have:=VR.func (ρ:=ρ) (by assumption) _ _ _ _ e1 e2
  have e3:∀ (z:Array Operand),(z.map a.eval)=⟨z.toList.map a.eval⟩:=fun z=>by apply Array.ext';simp
  rw [e3,e3]
  exact this
 case fieldAddr s x f=>
  simp only [aRd] at h
  split at h
  ·rename_i hi
   split at h
   ·rename_i fl hf
    split at h
    ·rename_i ti ht
     rcases zat h with ⟨hz,h⟩|⟨_,h⟩
     ·obtain ⟨b,o,hb,h⟩:=zbS h
      have hc:=hv x (by simp [Op.operands])
      rw [hb] at hc
      obtain ⟨r,hr,hc⟩:=hc.ptr_inv
      refine ⟨_,_,h,.ptr ⟨b,o+fl.offset,none⟩ _ r hr rfl rfl,?_⟩
      have:=zon (w:=w) hT hi rfl hf ht (by simpa using hz) ⟨r.blk,r.sh+o,none⟩
      rw [Addr.add_eq _ rfl] at this
      simp [execOp,hc,this,Nat.add_assoc]
     ·exact h.elim
    ·exact h.elim
   ·exact h.elim
  ·exact h.elim
 case field t x f=>
  simp only [aRd] at h
  split at h
  ·rename_i hi
   split at h
   ·rename_i fl hf
    obtain ⟨l,hl,h⟩:=zbD h
    have hc:=hv x (by simp [Op.operands])
    rw [hl] at hc
    obtain ⟨l',hc,hls⟩:=hc.agg_inv
    obtain ⟨v,v',h1,h2,h3⟩:=zja (P:=P) (w:=w) hT hls h
    exact ⟨v,v',h1,h2,by simp [execOp,hc,zsl hT hi rfl hf,h3]⟩
   ·exact h.elim
  ·exact h.elim
 case indexAddr t x i=>
  have hcx:=hv x (by simp [Op.operands])
  have hci:=hv i (by simp [Op.operands])
  simp only [aRd] at h
  split at h
  ·rename_i k n hi hn
   rw [hn] at hci
   have hci:=hci.int_inv
   split at h
   ·rename_i ti he
    obtain ⟨b,o,m,c,hb,h0,h1,h⟩:=zlW h
    rw [hb] at hcx
    obtain ⟨y,cap',hcx,hsr⟩:=hcx.slice_inv
    obtain ⟨hle,_,hsr⟩:=hsr
    rcases hsr with ⟨hz,_⟩|⟨r,hr,_,hy,_⟩
    ·omega
    ·refine ⟨_,_,h,.ptr ⟨b,_,none⟩ _ r hr rfl rfl,?_⟩
     have:=zgV (w:=w) hT hi rfl he (k:=k) (c:=y) (cap:=cap') h0 h1
     rw [hy,Addr.add_eq _ rfl] at this
     simp [execOp,hcx,hci,hy,this,Nat.add_assoc]
   ·exact h.elim
  ·rename_i k n hi hn
   rw [hn] at hci
   have hci:=hci.int_inv
   split at h
   ·rename_i ti he
    obtain ⟨b,o,hb,h⟩:=zbS h
    obtain ⟨h0,h1,h⟩:=zaR.1 h
    rw [hb] at hcx
    obtain ⟨r,hr,hcx⟩:=hcx.ptr_inv
    refine ⟨_,_,h,.ptr ⟨b,_,none⟩ _ r hr rfl rfl,?_⟩
    have:=zg8 (w:=w) hT hi rfl he (k:=k) (c:=⟨r.blk,r.sh+o,none⟩) h0 h1
    rw [Addr.add_eq _ rfl] at this
    simp [execOp,hcx,hci,this,offAt,Nat.add_assoc]
   ·exact h.elim
  ·exact h.elim
 case index t x i=>
  have hcx:=hv x (by simp [Op.operands])
  have hci:=hv i (by simp [Op.operands])
  simp only [aRd] at h
  split at h
  ·rename_i k n hi hn
   rw [hn] at hci
   have hci:=hci.int_inv
   split at h
   ·rename_i ti he
    obtain ⟨l,hl,h⟩:=zbD h
    obtain ⟨h0,h1,h⟩:=zaR.1 h
    rw [hl] at hcx
    obtain ⟨l',hcx,hls⟩:=hcx.agg_inv
    obtain ⟨v,v',g1,g2,g3⟩:=zja (P:=P) (w:=w) hT hls h
    exact ⟨v,v',zaX g1,g2,by simp [execOp,hcx,hci,zh6 hT hi rfl he h0 h1,g3]⟩
   ·exact h.elim
  ·rename_i k n hi hn
   rw [hn] at hci
   have hci:=hci.int_inv
   split at h
   ·rename_i s hs
    obtain ⟨h0,h1,h⟩:=zaR.1 h
    rw [hs] at hcx
    have hcx:=hcx.str_inv
    have:=zhK (w:=w) hT hi rfl (k:=k) h0 h1
    exact ⟨_,_,h,.scalar _ rfl,by simp only [execOp,hcx,hci,Sem.run_bind,this];rfl⟩
   ·exact h.elim
  ·exact h.elim
 case build t parts=>
  simp only [aRd] at h
  split at h
  ·rename_i i hi
   rcases zat h with ⟨hf,h⟩|⟨_,h⟩
   ·rw [Bool.and_eq_true] at hf
    obtain ⟨zs,hz,h⟩:=zbD h
    rcases zat h with ⟨hzs,h⟩|⟨_,h⟩
    ·have e1:VRs ρ (List.map (·.2) (parts.toList.map fun p=>(p.1,aev env p.2))) (List.map (·.2) (parts.toList.map fun p=>(p.1,a.eval p.2))):=by
      have:=VRs.map_ev (ρ:=ρ) (aev env) a.eval (l:=parts.toList.map (·.2)) (fun x hx=>hv x (by simpa [Op.operands] using hx))
      rw [List.map_map,List.map_map] at this ⊢
      exact this
     obtain ⟨v,v',⟨l,rfl,g1⟩,g2,g3⟩:=zoK (P:=P) (w:=w) hT hi hf.1 hf.2 _ _ _ zs hz hzs (by simp [List.map_map]) e1 h
     refine ⟨_,v',g1,g2,?_⟩
     have:(parts.map fun p=>(p.1,a.eval p.2))=⟨parts.toList.map fun p=>(p.1,a.eval p.2)⟩:=by
      apply Array.ext';simp
     simp only [execOp,Sem.run_bind]
     rw [show (parts.map fun (x:Nat × Operand)=>match x with|(i,x)=>(i,a.eval x))=⟨parts.toList.map fun p=>(p.1,a.eval p.2)⟩ from this,g3]
     rfl
    ·exact h.elim
   ·exact h.elim
  ·exact h.elim
 case slice t x lo hi mx=>
  cases mx with
  | some m=>
   cases lo with
   | some l=>cases hi <;> exact h.elim
   | none=>
   cases hi with
   | none=>exact h.elim
   | some u=>
   have hcx:=hv x (by simp [Op.operands])
   have hcu:=hv u (by simp [Op.operands])
   have hcm:=hv m (by simp [Op.operands])
   simp only [aRd] at h
   split at h
   ·rename_i hi'
    have hu:=zal (w:=w) hT hi'
    split at h
    ·rename_i he e1 e2
     have hs:=zaS (w:=w) hT he
     rw [e1] at hcu
     rw [e2] at hcm
     unfold clipK at h
     split at h
     ·rename_i e3
      rw [e3] at hcx
      obtain ⟨y,c',e4,hle,hcz,hsr⟩:=hcx.slice_inv
      refine ⟨_,.slice (some y) 0 0,h,.slice _ _ _ _ _ ⟨Nat.le_refl _,fun _=>rfl,.inl ⟨rfl,rfl⟩⟩,?_⟩
      simp [execOp,hcu.int_inv,hcm.int_inv,e4,Instr.sliceAt,hu,Instr.slice,Instr.sliceBounds,Instr.sliceBound,asIntOf,hs]
     ·rename_i e3
      rw [e3] at hcx
      refine ⟨_,.slice none 0 0,h,.scalar _ rfl,?_⟩
      simp [execOp,hcu.int_inv,hcm.int_inv,hcx.scalar_inv rfl,Instr.sliceAt,hu,Instr.slice,Instr.sliceBounds,Instr.sliceBound,asIntOf,hs]
     ·exact h.elim
    ·exact h.elim
   ·exact h.elim
  | none=>
   have hcx:=hv x (by simp [Op.operands])
   have hlo:∀ k l,lo.map (aev env)=some (.int k l)→lo.map a.eval=some (.int k l):=by
    intro k l hl
    cases lo with
    | none=>simp at hl
    | some y=>
     have:=hv y (by simp [Op.operands])
     simp at hl
     rw [hl] at this
     simp [this.int_inv]
   have hhi:∀ k l,hi.map (aev env)=some (.int k l)→hi.map a.eval=some (.int k l):=by
    intro k l hl
    cases hi with
    | none=>simp at hl
    | some y=>
     have:=hv y (by simp [Op.operands])
     simp at hl
     rw [hl] at this
     simp [this.int_inv]
   simp only [aRd] at h
   split at h
   ·rename_i e _ _ _ hi'
    split at h
    ·rename_i ti he
     rcases zat h with ⟨hz,h⟩|⟨_,h⟩
     ·have h':sliceK H e (aev env x) (lo.map a.eval) (hi.map a.eval) ti.size K:=by
       unfold sliceK at h ⊢
       have hconv:∀ {n:Nat} {K:Int→Int→Prop},(loOf (lo.map (aev env)) fun l=>hiOf (hi.map (aev env)) n fun h=>K l h)→(loOf (lo.map a.eval) fun l=>hiOf (hi.map a.eval) n fun h=>K l h):=fun h=>zsG hlo hhi h
       split at h
       ·exact ⟨h.1,hconv h.2⟩
       ·exact hconv h
       ·exact h.elim
      exact lift (znn hT R hi' rfl he (by simpa using hz) hcx h') rfl
     ·exact h.elim
    ·exact h.elim
   ·rename_i hi'
    split at h
    ·rename_i s hs
     rw [hs] at hcx
     have hcx:=hcx.str_inv
     have hu:=zal (w:=w) hT hi'
     have hmain:∃ l hh:Int,((lo.map a.eval=none∧l=0)∨∃ k,lo.map a.eval=some (.int k l))∧((hi.map a.eval=none∧hh=s.size)∨∃ k,hi.map a.eval=some (.int k hh))∧0≤l∧l≤hh∧hh≤(s.size:Int)∧K (.string (s.extract l.toNat hh.toNat)):=by
      rcases zbV h with ⟨e1,h⟩|⟨k,l,e1,h⟩ <;> rcases zbT h with ⟨e2,h⟩|⟨k',hh,e2,h⟩
      ·simp at e1 e2;exact ⟨_,_,.inl ⟨by simp [e1],rfl⟩,.inl ⟨by simp [e2],rfl⟩,h⟩
      ·simp at e1;exact ⟨_,_,.inl ⟨by simp [e1],rfl⟩,.inr ⟨_,hhi _ _ e2⟩,h⟩
      ·simp at e2;exact ⟨_,_,.inr ⟨_,hlo _ _ e1⟩,.inl ⟨by simp [e2],rfl⟩,h⟩
      ·exact ⟨_,_,.inr ⟨_,hlo _ _ e1⟩,.inr ⟨_,hhi _ _ e2⟩,h⟩
     obtain ⟨l,hh,e1,e2,g0,g1,g2,hk⟩:=hmain
     have hb:=zex (P:=P) (w:=w) (isSlice:=false) e1 e2 g0 g1 g2 (Nat.le_refl _)
     refine ⟨_,_,hk,.scalar _ rfl,?_⟩
     simp only [execOp,Sem.run_bind,Option.map_none,hcx,Instr.sliceAt,hu,Result.andThen_ok,Instr.slice,Option.isSome_none,Bool.false_eq_true,if_false,hb,Sem.run_pure]
    ·exact h.elim
   ·rename_i n e _ _ _ hi'
    split at h
    ·rename_i ti he
     obtain ⟨b,o,hb,h⟩:=zbS h
     rw [hb] at hcx
     obtain ⟨r,hr,hcx⟩:=hcx.ptr_inv
     have hu:=zal (w:=w) hT hi'
     have hs:=zaS (w:=w) hT he
     refine ⟨_,.slice (some ⟨r.blk,r.sh+o,none⟩) n n,h,.slice _ _ _ _ _ ⟨Nat.le_refl _,by omega,.inr ⟨r,hr,rfl,rfl,.inl rfl⟩⟩,?_⟩
     simp [execOp,hcx,Instr.sliceAt,hu,Instr.sureAddr,Instr.sliceBounds,hs,Addr.add]
    ·exact h.elim
   ·exact h.elim
 case extract x ix=>
  obtain ⟨l,hl,h⟩:=zdQ h
  have hcx:=hv x (by simp [Op.operands])
  rw [hl] at hcx
  obtain ⟨l',hcx,hls⟩:=hcx.tuple_inv
  split at h
  ·rename_i v hv'
   obtain ⟨v',e,r⟩:=hls.get _ _ hv'
   refine ⟨v,v',h,r,?_⟩
   simp [execOp,hcx,Instr.extract,e]
  ·exact h.elim
 all_goals exact h.elim
end
end Go.Abs
/- The heap turned: new rows, stores, appends: the relation stands. -/
namespace Go.Abs
open Go.RowKit

def Loc.upd (ρ:Loc) (b:Nat) (r:Blk):Loc:=fun x=>if x=b then some r else ρ x
theorem Loc.upd_same (ρ:Loc) (b:Nat) (r:Blk):ρ.upd b r b=some r:=by simp [Loc.upd]
theorem Loc.upd_ne (ρ:Loc) {b x:Nat} (r:Blk) (h:x≠b):ρ.upd b r x=ρ x:=by simp [Loc.upd,h]
section
variable {P:Program} {T:TT} {G:Nat} {w0 w:World} {ρ:Loc} {H:AHeap} {env:Env} {a:Act}

theorem zaj {α:Type} {l:List α} {i:Nat} {x:α} (h:l[i]?=some x):i<l.length:=by
 rcases Nat.lt_or_ge i l.length with h'|h'
 ·exact h'
 ·simp [List.getElem?_eq_none h'] at h
theorem zdf {α:Type} {l:Array α} {i:Nat} {x:α} (h:l[i]?=some x):i<l.size:=by
 rcases Nat.lt_or_ge i l.size with h'|h'
 ·exact h'
 ·simp [Array.getElem?_eq_none h'] at h
theorem Rel.le_upd (R:Rel T G w0 ρ H w) (r:Blk):ρ.le (ρ.upd H.length r):=fun b r' h=>by
 have:=(R.dom b r' h).1
 rw [Loc.upd_ne _ _ (by omega)];exact h
theorem Rel.new (R:Rel T G w0 ρ H w) {cs cs':List Value} (C:Array Value) (e:TypeId) {ti:TI} (he:T e=some ti) (hvs:VRs ρ cs cs') (hone:∀ v∈cs,v.oneCell'=true)
 (hC:∀ (i:Nat) v',cs'[i]?=some v'→C[i]?=some v') :
 Rel T G w0 (ρ.upd H.length ⟨w.heap.size,0,C.size,ti.size⟩) (H++[some (.row cs e true)]) { w with heap:=w.heap.push (.cells C e) }:=by
 have hle:=R.le_upd ⟨w.heap.size,0,C.size,ti.size⟩
 have old:∀ (k:Nat),k<w.heap.size→({ w with heap:=w.heap.push (.cells C e) }:World).heap[k]?=w.heap[k]?:=fun k hk=>by
  show (w.heap.push _)[k]?=_
  rw [Array.getElem?_push,if_neg (by omega)]
 refine ⟨?_,?_,?_,?_,?_,?_⟩
 ·have:=R.below.size
  exact R.below.trans ⟨rfl,rfl,rfl,by simp,fun k hk=>old k (by omega)⟩
 ·intro b r h
  by_cases hb:b=H.length
  ·subst hb;rw [Loc.upd_same] at h;obtain rfl:=Option.some.inj h;simp
  ·rw [Loc.upd_ne _ _ hb] at h
   have:=R.dom b r h
   simp;omega
 ·intro g hg
  obtain ⟨N,s,h⟩:=R.glob g hg
  exact ⟨N,s,hle _ _ h⟩
 ·intro b cs2 e2 own hb
  by_cases hbl:b=H.length
  ·subst hbl
   simp at hb
   obtain ⟨rfl,rfl,rfl⟩:=hb
   refine ⟨_,C,e,(0,0),Loc.upd_same _ _ _,?_,rfl,?_,fun _=>⟨rfl,rfl,R.below.size⟩,ti,he,rfl⟩
   ·show (w.heap.push _)[w.heap.size]?=_
    simp
   ·intro i v hv
    obtain ⟨v',h1,h2⟩:=hvs.get i v hv
    exact ⟨hone v (List.mem_of_getElem? hv),v',by simpa using hC i v' h1,h2.mono hle⟩
  ·have hb':H[b]?=some (some (.row cs2 e2 own)):=by
    have:=zaj hb
    simp at this
    rwa [List.getElem?_append_left (by omega)] at hb
   obtain ⟨r,C2,e3,fr,h1,h2,h3,h4,h5,h6⟩:=R.row b cs2 e2 own hb'
   refine ⟨r,C2,e3,fr,hle _ _ h1,?_,h3,?_,h5,h6⟩
   ·rw [old _ (R.dom _ _ h1).2];exact h2
   ·intro i v hv
    obtain ⟨g1,v',g2,g3⟩:=h4 i v hv
    exact ⟨g1,v',g2,g3.mono hle⟩
 ·intro b b' o o' r r' hb hb' ho h1 h2 heq
  have hlen:=zaj hb
  have hlen':=zaj hb'
  simp at hlen hlen'
  by_cases h3:b=H.length <;> by_cases h4:b'=H.length
  ·omega
  ·rw [h3,Loc.upd_same] at h1
   rw [Loc.upd_ne _ _ h4] at h2
   have:=(R.dom _ _ h2).2
   obtain rfl:=Option.some.inj h1
   simp at heq;omega
  ·rw [h4,Loc.upd_same] at h2
   rw [Loc.upd_ne _ _ h3] at h1
   have:=(R.dom _ _ h1).2
   obtain rfl:=Option.some.inj h2
   simp at heq;omega
  ·rw [Loc.upd_ne _ _ h3] at h1
   rw [Loc.upd_ne _ _ h4] at h2
   rw [List.getElem?_append_left (by omega)] at hb hb'
   exact R.inj b b' o o' r r' hb hb' ho h1 h2 heq
 ·intro b es cl hb
  have hlen:=zaj hb
  simp at hlen
  have hb':H[b]?=some (some (.map es cl)):=by
   by_cases h3:b=H.length
   ·subst h3;simp at hb
   ·rwa [List.getElem?_append_left (by omega)] at hb
  obtain ⟨r,h1,h2,h3⟩:=R.map b es cl hb'
  exact ⟨r,hle _ _ h1,by rw [old _ (R.dom _ _ h1).2];exact h2,h3⟩
theorem Rel.kill (R:Rel T G w0 ρ H w) (b:Nat):Rel T G w0 ρ (H.set b none) w:=by
 have back:∀ {x:Nat} {o:AObj},(H.set b none)[x]?=some (some o)→H[x]?=some (some o):=by
  intro x o h
  by_cases hx:x=b
  ·subst hx
   by_cases hl:x<H.length
   ·simp [List.getElem?_set_self hl] at h
   ·simp [List.getElem?_eq_none (show (H.set x none).length≤x by simp;omega)] at h
  ·rwa [List.getElem?_set_ne (by omega)] at h
 exact ⟨R.below,fun x r h=>by simpa using R.dom x r h,R.glob,fun x cs e own h=>R.row x cs e own (back h),
  fun x y o o' r r' h1 h2=>R.inj x y o o' r r' (back h1) (back h2),fun x es cl h=>R.map x es cl (back h)⟩
theorem Rel.drew (R:Rel T G w0 ρ H w) (n:Nat):Rel T G w0 ρ H { w with drawn:=n }:=
 ⟨⟨R.below.os,R.below.tape,R.below.output,R.below.size,R.below.block⟩,R.dom,R.glob,R.row,R.inj,R.map⟩
theorem Rel.turn (R:Rel T G w0 ρ H w) {b:Nat} {cs:List Value} {e:TypeId} {r:Blk} {C:Array Value} (hb:H[b]?=some (some (.row cs e true))) (hr:ρ b=some r)
 (C':Array Value) (hsz:C'.size=C.size) (hw:w.heap[r.blk]?=some (.cells C e (0,0))) {w':World} (hw':w'={ w with heap:=w.heap.setIfInBounds r.blk (.cells C' e (0,0)) })
 {b':Nat} {sh':Nat} {H':AHeap} (ρ':Loc) (hρ':ρ.le ρ') {cs':List Value}
 (hH:∀ (x:Nat) (o:AObj),H'[x]?=some (some o)→(x=b'∧o=.row cs' e true)∨(x≠b'∧x≠b∧H[x]?=some (some o)∧ρ' x=ρ x))
 (hlen:H.length≤H'.length) (hdom:∀ x s,ρ' x=some s→x<H'.length∧s.blk<w.heap.size) (hb':ρ' b'=some { r with sh:=sh' })
 (hcells:∀ (i:Nat) v,cs'[i]?=some v→v.oneCell'=true∧∃ v',C'[sh'+i]?=some v'∧VR ρ' v v'):Rel T G w0 ρ' H' w':=by
 subst hw'
 obtain ⟨r1,C1,e1,fr1,g1,g2,g3,g4,g5,ti,g6,g7⟩:=R.row b cs e true hb
 rw [hr] at g1
 obtain rfl:=Option.some.inj g1
 rw [hw] at g2
 simp only [Option.some.injEq,Obj.cells.injEq] at g2
 obtain ⟨rfl,rfl,rfl⟩:=g2
 obtain ⟨_,_,g8⟩:=g5 rfl
 have hlt:=(R.dom _ _ hr).2
 have other:∀ (k:Nat),k≠r.blk→({ w with heap:=w.heap.setIfInBounds r.blk (.cells C' e (0,0)) }:World).heap[k]?=w.heap[k]?:=fun k hk=>by
  show (w.heap.setIfInBounds _ _)[k]?=_
  rw [Array.getElem?_setIfInBounds_ne (by omega)]
 have apart:∀ {x:Nat} {o:AObj} {s:Blk},x≠b→H[x]?=some (some o)→ρ x=some s→s.blk≠r.blk:=fun hx ho hs he=>
  hx (R.inj b _ (.row cs e true) _ r _ hb ho (by simp) hr hs he.symm).symm
 refine ⟨R.below.trans ⟨rfl,rfl,rfl,by simp,fun k hk=>other k (by omega)⟩,?_,?_,?_,?_,?_⟩
 ·intro x s h
  have:=hdom x s h
  simpa using this
 ·intro g hg
  obtain ⟨N,s,h⟩:=R.glob g hg
  exact ⟨N,s,hρ' _ _ h⟩
 ·intro x cs2 e2 own hx
  rcases hH x _ hx with ⟨rfl,ho⟩|⟨h1,h2,h3,h4⟩
  ·simp only [AObj.row.injEq] at ho
   obtain ⟨rfl,rfl,rfl⟩:=ho
   refine ⟨_,C',e2,(0,0),hb',?_,?_,hcells,fun _=>⟨rfl,rfl,g8⟩,ti,g6,g7⟩
   ·show (w.heap.setIfInBounds _ _)[r.blk]?=_
    simp [hlt]
   ·show C'.size=r.N
    rw [hsz];exact g3
  ·obtain ⟨s,C2,e3,fr,k1,k2,k3,k4,k5,k6⟩:=R.row x cs2 e2 own h3
   refine ⟨s,C2,e3,fr,hρ' _ _ k1,by rw [other _ (apart h2 h3 k1)];exact k2,k3,?_,k5,k6⟩
   intro i v hv
   obtain ⟨q1,v',q2,q3⟩:=k4 i v hv
   exact ⟨q1,v',q2,q3.mono hρ'⟩
 ·intro x y o o' s s' hx hy ho hs hs' heq
  rcases hH x _ hx with ⟨rfl,ho1⟩|⟨h1,h2,h3,h4⟩ <;> rcases hH y _ hy with ⟨rfl,ho2⟩|⟨k1,k2,k3,k4⟩
  ·rfl
  ·rw [hb'] at hs
   obtain rfl:=Option.some.inj hs
   rw [k4] at hs'
   exact absurd heq.symm (apart k2 k3 hs')
  ·rw [hb'] at hs'
   obtain rfl:=Option.some.inj hs'
   rw [h4] at hs
   exact absurd heq (apart h2 h3 hs)
  ·rw [h4] at hs
   rw [k4] at hs'
   exact R.inj x y o o' s s' h3 k3 ho hs hs' heq
 ·intro x es cl hx
  rcases hH x _ hx with ⟨rfl,ho⟩|⟨h1,h2,h3,h4⟩
  ·simp at ho
  ·obtain ⟨s,k1,k2,k3⟩:=R.map x es cl h3
   exact ⟨s,hρ' _ _ k1,by rw [other _ (apart h2 h3 k1)];exact k2,k3⟩
end
end Go.Abs
/- Operations that turn the heap: what they give over the abstract heap, and that the model gives the same. -/
namespace Go.Abs
open Go.RowKit

def newK (H:AHeap) (cs:List Value) (e:TypeId) (K:Nat→AHeap→Prop):Prop:=
 pif (cs.all Value.oneCell') (K H.length (H++[some (.row cs e true)])) False
def zeroK (i:TI) (K:List Value→Prop):Prop:=
 match i.zero with
 | .agg ⟨zs⟩=>pif (zs.all scalar&&decide (zs.length=i.size)) (K zs) False
 | z=>pif (scalar z&&decide (1=i.size)) (K [z]) False
def stK (H:AHeap) (b o:Nat) (cs:List Value) (K:AHeap→Prop):Prop:=
 match H[b]? with
 | some (some (.row old e true))=>o+cs.length≤old.length∧(∀ v∈cs,v.oneCell'=true)∧K (H.set b (some (.row (old.take o++cs++old.drop (o+cs.length)) e true)))
 | _=>False
def cellsAt (H:AHeap) (v:Value) (sz:Nat) (n:Nat) (xs:List Value):Prop:=
 xs.length=n*sz∧∃ a c,v=.slice a n c∧(n=0∨∃ b o,a=some ⟨b,o,none⟩∧∀ (i:Nat) u,xs[i]?=some u→H.cell b (o+i)=some u)
def ownAt (H:AHeap) (e:TypeId) (v:Value) (sz:Nat) (n:Nat) (xs:List Value) (H':AHeap):Prop:=
 (v=.slice none 0 0∧n=0∧xs=[]∧H'=H)∨(∃ a,v=.slice (some a) 0 0∧n=0∧xs=[]∧H'=H)∨
 ∃ b o c cs,v=.slice (some ⟨b,o,none⟩) n c∧H[b]?=some (some (.row cs e true))∧o+n*sz≤cs.length∧xs=(cs.drop o).take (n*sz)∧H'=H.set b none
def apK (T:TT) (e:TypeId) (H:AHeap) (s x:Value) (K:Value→AHeap→Prop):Prop:=
 match T e with
 | some ti=>∃ m xs,cellsAt H x ti.size m xs∧((m=0∧((∃ a n c,s=.slice (some a) n c)∨s=.slice none 0 0)∧K s H)∨
  (0<m∧∃ n ss H',ownAt H e s ti.size n ss H'∧n+m≤4294967296∧ti.bytes≤1024∧ti.fine=true∧0<ti.size∧K (.slice (some ⟨H.length,0,none⟩) (n+m) (n+m+1)) (H'++[some (.row (ss++xs) e true)])))
 | none=>False
def apN (T:TT) (e:TypeId) (H:AHeap) (s x:Value) (K:Value→AHeap→Prop):Prop:=
 ∃ ti k n,T e=some ti∧s=.slice none 0 0∧x=.int k n∧0<n∧n≤4294967296∧ti.bytes≤1024∧ti.fine=true∧0<ti.size∧
  zeroK ti fun zs=>K (.slice (some ⟨H.length,0,none⟩) n.toNat (n.toNat+1)) (H++[some (.row (List.replicate n.toNat zs).flatten e true)])
def cpK (T:TT) (e:TypeId) (H:AHeap) (d s:Value) (K:Nat→AHeap→Prop):Prop:=
 match T e with
 | some ti=>(∃ a m c a2 n c2,s=.slice a m c∧d=.slice a2 n c2∧(m=0∨n=0)∧K 0 H)∨
  ∃ sb so m c b o n c2 old xs,s=.slice (some ⟨sb,so,none⟩) m c∧d=.slice (some ⟨b,o,none⟩) n c2∧H[b]?=some (some (.row old e true))∧0<Nat.min m n∧xs.length=Nat.min m n*ti.size∧
   (∀ (i:Nat) u,xs[i]?=some u→H.cell sb (so+i)=some u)∧o+xs.length≤old.length∧K (Nat.min m n) (H.set b (some (.row (old.take o++xs++old.drop (o+xs.length)) e true)))
 | none=>False
def capK (v:Value) (K:Nat→Prop):Prop:=match v with|.slice none 0 0=>K 0|_=>False
def bytesOf (ns:List Int):ByteArray:=ns.foldl (fun r n=>r.push (UInt8.ofNat n.toNat)) ByteArray.empty
def bytK (H:AHeap) (v:Value) (K:ByteArray→Prop):Prop:=∃ ns:List Int,cellsAt H v 1 ns.length (ns.map (Value.int .u8))∧K (bytesOf ns)
def isBytes (T:TT) (s:TypeId):Bool:=
 match T s with
 | some ⟨.slice e,_,_,_⟩=>match T e with
  | some ⟨.int .u8,_,_,_⟩=>true
  | _=>false
 | _=>false
def isString (T:TT) (s:TypeId):Bool:=match T s with|some ⟨.string,_,_,_⟩=>true|_=>false
def mkK (T:TT) (e:TypeId) (H:AHeap) (l c:Value) (K:Value→AHeap→Prop):Prop:=
 match T e,l,c with
 | some ti,.int _ n,.int _ m=>0≤n∧n≤m∧m≤4294967296∧ti.bytes≤1024∧zeroK ti fun zs=>K (.slice (some ⟨H.length,0,none⟩) n.toNat (n.toNat+1)) (H++[some (.row (List.replicate n.toNat zs).flatten e true)])
 | _,_,_=>False
def clrK (T:TT) (e:TypeId) (H:AHeap) (v:Value) (K:AHeap→Prop):Prop:=
 match T e with
 | some ti=>(∃ a c,v=.slice a 0 c∧K H)∨
  ∃ b o n c old,v=.slice (some ⟨b,o,none⟩) n c∧0<n∧H[b]?=some (some (.row old e true))∧o+n*ti.size≤old.length∧zeroK ti fun zs=>K (H.set b (some (.row (old.take o++(List.replicate n zs).flatten++old.drop (o+n*ti.size)) e true)))
 | none=>False
def aEf (T:TT) (op:Op) (ev:Operand→Value) (H:AHeap) (K:Value→AHeap→Prop):Prop:=
 match op with
 | .alloc e=>match T e with
  | some ti=>zeroK ti fun cs=>newK H cs e fun b H'=>K (.pointer (some ⟨b,0,none⟩)) H'
  | none=>False
 | .box e x=>match T e with
  | some ti=>cellsOf ti.zero (ev x) fun cs=>newK H cs e fun b H'=>K (.pointer (some ⟨b,0,none⟩)) H'
  | none=>False
 | .buildSlice t len parts=>match T t with
  | some ⟨.slice e,_,_,_⟩=>match T e with
   | some ti=>pif (decide (len*ti.size≤2^24)) (zeroK ti fun zs=>fillK T (fun i=>some (i*ti.size,e)) (parts.toList.map fun p=>(p.1,ev p.2)) (List.replicate len zs).flatten fun cs=>
    newK H cs e fun b H'=>K (.slice (some ⟨b,0,none⟩) len (len+1)) H') False
   | none=>False
  | _=>False
 | .makeSlice t l c=>match T t with
  | some ⟨.slice e,_,_,_⟩=>mkK T e H (ev l) (ev c) K
  | _=>False
 | .store t p x=>match T t with
  | some ti=>cellsOf ti.zero (ev x) fun cs=>pif (decide (cs.length=ti.size)) (asP (ev p) fun b o=>stK H b o cs fun H'=>K undef H') False
  | none=>False
 | _=>False
section
variable {P:Program} {T:TT} {G:Nat} {w0 w:World} {ρ:Loc} {H:AHeap} {env:Env} {a:Act}

theorem zrY {cs:List Value} {e:TypeId} {K:Nat→AHeap→Prop} (h:newK H cs e K):(∀ v∈cs,v.oneCell'=true)∧K H.length (H++[some (.row cs e true)]):=by
 rcases zat h with ⟨h1,h⟩|⟨_,h⟩
 ·exact ⟨by simpa using h1,h⟩
 ·exact h.elim
theorem zdM {i:TI} {K:List Value→Prop} (h:zeroK i K):∃ zs,i.zero.cells.toList=zs∧zs.all scalar=true∧zs.length=i.size∧K zs:=by
 unfold zeroK at h
 split at h
 ·rename_i zs hz
  rcases zat h with ⟨h1,h⟩|⟨_,h⟩
  ·rw [Bool.and_eq_true] at h1
   exact ⟨zs,by rw [hz];rfl,h1.1,of_decide_eq_true h1.2,h⟩
  ·exact h.elim
 ·rename_i hz
  rcases zat h with ⟨h1,h⟩|⟨_,h⟩
  ·rw [Bool.and_eq_true] at h1
   refine ⟨[i.zero],?_,by simpa using h1.1,by simpa using of_decide_eq_true h1.2,h⟩
   have:=h1.1
   cases hz':i.zero <;> first|rfl|(rw [hz'] at this;simp [Abs.scalar] at this)
  ·exact h.elim
theorem zfg {v:Value} (h:Abs.scalar v=true):v.oneCell'=true:=by cases v <;> first|rfl|(simp [Abs.scalar] at h)
def Turns (P:Program) (T:TT) (G:Nat) (w0:World) (ρ:Loc) (w:World) (s:Sem Value) (K:Value→AHeap→Prop):Prop:=
 ∃ v v' ρ' H' w',K v H'∧ρ.le ρ'∧VR ρ' v v'∧Rel T G w0 ρ' H' w'∧s.run P w=.ok v' w'
theorem zeO (hT:TT.ok P T) (R:Rel T G w0 ρ H w) {cs cs':List Value} {e:TypeId} {ti:TI} (he:T e=some ti) (hvs:VRs ρ cs cs') {K:Nat→AHeap→Prop} (h:newK H cs e K) :
 ∃ ρ',K H.length (H++[some (.row cs e true)])∧ρ.le ρ'∧(∃ r,ρ' H.length=some r∧r.blk=w.heap.size∧r.sh=0∧r.N=cs'.length∧r.sz=ti.size)∧
  Rel T G w0 ρ' (H++[some (.row cs e true)]) { w with heap:=w.heap.push (.cells ⟨cs'⟩ e) }:=by
 obtain ⟨h1,h2⟩:=zrY h
 exact ⟨_,h2,R.le_upd _,⟨_,Loc.upd_same _ _ _,rfl,rfl,by simp,rfl⟩,R.new ⟨cs'⟩ e he hvs h1 (by simp)⟩
theorem zo2 (hT:TT.ok P T) (R:Rel T G w0 ρ H w) {e:TypeId} {ti:TI} (he:T e=some ti) {K:Value→AHeap→Prop}
 (h:zeroK ti fun cs=>newK H cs e fun b H'=>K (.pointer (some ⟨b,0,none⟩)) H'):Turns P T G w0 ρ w (Instr.alloc e true (.tuple #[])) K:=by
 obtain ⟨zs,hz,hs,_,h⟩:=zdM h
 obtain ⟨ρ',h1,h2,⟨r,h3,h4,h5,_⟩,h6⟩:=zeO hT R he (VRs.scalars hs) h
 refine ⟨_,.pointer (some ⟨w.heap.size,0,none⟩),ρ',_,_,h1,h2,.ptr _ _ r h3 rfl (by simp [h4,h5]),h6,?_⟩
 have:ti.zero.cells=⟨zs⟩:=by rw [← hz]
 simp [Instr.alloc,zbv hT he,newVar,newRow,this]
theorem ztm (hT:TT.ok P T) (R:Rel T G w0 ρ H w) {e:TypeId} {ti:TI} (he:T e=some ti) {v v':Value} (hv:VR ρ v v') {K:Value→AHeap→Prop}
 (h:cellsOf ti.zero v fun cs=>newK H cs e fun b H'=>K (.pointer (some ⟨b,0,none⟩)) H'):Turns P T G w0 ρ w (Instr.box e v') K:=by
 have h:=zeA h
 obtain ⟨ρ',h1,h2,⟨r,h3,h4,h5,_⟩,h6⟩:=zeO hT R he hv.cells h
 refine ⟨_,.pointer (some ⟨w.heap.size,0,none⟩),ρ',_,_,h1,h2,.ptr _ _ r h3 rfl (by simp [h4,h5]),h6,?_⟩
 simp [Instr.box,newVar,newRow]
theorem zsM (zs:List Value) (n:Nat):(List.range (n*zs.length)).map (fun i=>zs[i%zs.length]!)=(List.replicate n zs).flatten:=by
 induction n with
 | zero=>simp
 | succ n ih=>
  rw [Nat.succ_mul,List.range_add,List.map_append,ih,List.replicate_succ',List.flatten_append]
  congr 1
  rw [List.map_map]
  apply List.ext_getElem
  ·simp
  ·intro i h1 h2
   simp at h1 h2
   simp [Nat.mod_eq_of_lt h1,List.getElem!_eq_getElem?_getD,h1]
theorem zlj (zs:Array Value) (n:Nat):(((Array.range (n*zs.size)).map fun i=>zs[i%zs.size]!)).toList=(List.replicate n zs.toList).flatten:=by
 have:=zsM zs.toList n
 rw [← this]
 simp only [Array.toList_map,Array.toList_range,Array.length_toList]
 apply List.map_congr_left
 intro i _
 simp [Array.getElem!_eq_getD,Array.getD_eq_getD_getElem?,List.getElem!_eq_getElem?_getD]
theorem VRs.flatten_scalars {zs:List Value} (h:zs.all scalar=true) (n:Nat):VRs ρ (List.replicate n zs).flatten (List.replicate n zs).flatten:=by
 apply VRs.scalars
 simp at h ⊢
 exact .inr h
theorem zhJ (hT:TT.ok P T) (R:Rel T G w0 ρ H w) {t e:TypeId} {i ti:TI} (hi:T t=some i) (hd:i.desc=.slice e) (he:T e=some ti) {len:Nat} (hlen:len*ti.size≤2^24)
 {parts parts':List (Nat × Value)} (h1:parts.map (·.1)=parts'.map (·.1)) (h2:VRs ρ (parts.map (·.2)) (parts'.map (·.2))) {K:Value→AHeap→Prop}
 (h:zeroK ti fun zs=>fillK T (fun i=>some (i*ti.size,e)) parts (List.replicate len zs).flatten fun cs=>newK H cs e fun b H'=>K (.slice (some ⟨b,0,none⟩) len (len+1)) H') :
 Turns P T G w0 ρ w (Instr.buildSlice t len ⟨parts'⟩) K:=by
 obtain ⟨zs,hz,hs,hzl,h⟩:=zdM h
 have hu:=zal (w:=w) hT hi
 have hsz:=zaS (w:=w) hT he
 have hzr:=zbv (w:=w) hT he
 obtain ⟨r,r',g1,g2,g3⟩:=zfi (ρ:=ρ) (T:=T) _ (fun i=>some (i*ti.size,ti.size)) (by
  intro j off tt hj
  simp only [Option.some.injEq] at hj
  obtain ⟨rfl,rfl⟩:=Prod.mk.inj hj
  exact ⟨ti,he,rfl⟩) parts parts' _ _ _ h1 h2 (VRs.flatten_scalars hs len) h
 obtain ⟨ρ',k1,k2,⟨q,k3,k4,k5,k7,k8⟩,k6⟩:=zeO hT R he g2 g1
 refine ⟨_,.slice (some ⟨w.heap.size,0,none⟩) len len,ρ',_,_,k1,k2,.slice _ _ _ _ _ ⟨Nat.le_refl _,by omega,.inr ⟨q,k3,rfl,by simp [k4,k5],.inl rfl⟩⟩,k6,?_⟩
 have hzero:∀ (z:Array Value),(len*ti.size=0∧z=#[]∨len*ti.size≠0∧z=ti.zero.cells)→((Array.range (len*ti.size)).map fun i=>z[i%z.size]!)=⟨(List.replicate len zs).flatten⟩:=by
  intro z hz'
  apply Array.ext'
  rcases hz' with ⟨h0,rfl⟩|⟨h0,rfl⟩
  ·rw [h0]
   have:(List.replicate len zs).flatten.length=0:=by simp [hzl,h0]
   rw [List.length_eq_zero_iff.1 this];simp
  ·have e1:ti.zero.cells.size=ti.size:=by rw [← hzl,← hz];simp
   rw [← hz,← zlj,e1]
 simp only [Instr.buildSlice,Sem.run_bind,hu,hd,Result.andThen_ok,hsz]
 rw [if_neg (by omega)]
 by_cases h0:len*ti.size=0
 ·rw [if_pos h0]
  simp only [Sem.run_pure,Result.andThen_ok,Sem.run_bind]
  rw [hzero #[] (.inl ⟨h0,rfl⟩),g3]
  simp [newRow]
 ·rw [if_neg h0]
  simp only [Sem.run_bind,hzr,Sem.run_pure,Result.andThen_ok]
  rw [hzero _ (.inr ⟨h0,rfl⟩),g3]
  simp [newRow]
theorem ziF (hT:TT.ok P T) (R:Rel T G w0 ρ H w) {t e:TypeId} {i ti:TI} (hi:T t=some i) (hd:i.desc=.slice e) (he:T e=some ti) {k k':IntKind} {n m:Int} {K:Value→AHeap→Prop}
 (h0:0≤n) (h1:n≤m) (h2:m≤4294967296) (h3:ti.bytes≤1024)
 (h:zeroK ti fun zs=>K (.slice (some ⟨H.length,0,none⟩) n.toNat (n.toNat+1)) (H++[some (.row (List.replicate n.toNat zs).flatten e true)])) :
 Turns P T G w0 ρ w (Instr.makeSlice t (.int k n) (.int k' m)) K:=by
 obtain ⟨zs,hz,hs,hzl,h⟩:=zdM h
 have hu:=zal (w:=w) hT hi
 have hsz:=zaS (w:=w) hT he
 have hzr:=zbv (w:=w) hT he
 obtain ⟨j,hj1,hj2,hj3,hj4⟩:=zeE (w:=w) hT he
 have w1:IntKind.i64.wrap n=n:=by simp [IntKind.wrap,IntKind.bits,IntKind.signed];omega
 have w2:IntKind.i64.wrap m=m:=by simp [IntKind.wrap,IntKind.bits,IntKind.signed];omega
 have hle:(List.replicate n.toNat zs).flatten.length≤(List.replicate m.toNat zs).flatten.length:=by simp;exact Nat.mul_le_mul_right _ (by omega)
 have hone:∀ v∈(List.replicate n.toNat zs).flatten,v.oneCell'=true:=by
  intro v hv
  simp at hv hs
  obtain ⟨l,⟨_,rfl⟩,hv⟩:=hv
  exact zfg (hs v hv)
 have hC:∀ (i:Nat) v',(List.replicate n.toNat zs).flatten[i]?=some v'→(⟨(List.replicate m.toNat zs).flatten⟩:Array Value)[i]?=some v':=by
  intro i v' hv'
  have:(List.replicate m.toNat zs)=List.replicate n.toNat zs++List.replicate (m.toNat-n.toNat) zs:=by
   rw [List.replicate_append_replicate];congr 1;omega
  simp only [List.getElem?_toArray,this,List.flatten_append]
  rw [List.getElem?_append_left (zaj hv')];exact hv'
 have R':=R.new ⟨(List.replicate m.toNat zs).flatten⟩ e he (VRs.flatten_scalars (ρ:=ρ) hs n.toNat) hone hC
 refine ⟨_,.slice (some ⟨w.heap.size,0,none⟩) n.toNat m.toNat,_,_,_,h,R.le_upd _,.slice _ _ _ _ _ ⟨by omega,by omega,.inr ⟨_,Loc.upd_same _ _ _,rfl,rfl,.inr ?_⟩⟩,R',?_⟩
 ·simp [hzl]
 ·have hb:((j.bytes:Int)*m>2^48)=False:=by
   rw [hj3]
   simp only [gt_iff_lt,eq_iff_iff,iff_false,Int.not_lt]
   have:(ti.bytes:Int)*m≤1024*4294967296:=Int.mul_le_mul (by omega) h2 (by omega) (by omega)
   omega
  simp only [Instr.makeSlice,Sem.run_bind,hu,hd,Result.andThen_ok,asInt,asIntOf,Sem.run_pure,hj1,w1,w2,hb,pure_bind]
  rw [if_neg (by simp;omega)]
  simp only [run_askRoom,Result.andThen_ok,Sem.run_bind,hsz]
  have hzero:∀ (z:Array Value),(m.toNat*ti.size=0∧z=#[]∨m.toNat*ti.size≠0∧z=ti.zero.cells)→((Array.range (m.toNat*ti.size)).map fun i=>z[i%z.size]!)=⟨(List.replicate m.toNat zs).flatten⟩:=by
   intro z hz'
   apply Array.ext'
   rcases hz' with ⟨h0,rfl⟩|⟨h0,rfl⟩
   ·rw [h0]
    have:(List.replicate m.toNat zs).flatten.length=0:=by simp [hzl,h0]
    rw [List.length_eq_zero_iff.1 this];simp
   ·have e1:ti.zero.cells.size=ti.size:=by rw [← hzl,← hz];simp
    rw [← hz,← zlj,e1]
  by_cases h0:m.toNat*ti.size=0
  ·rw [if_pos h0]
   simp only [Sem.run_pure,Result.andThen_ok,Sem.run_bind]
   rw [hzero #[] (.inl ⟨h0,rfl⟩)]
   simp [newRow]
  ·rw [if_neg h0]
   simp only [Sem.run_bind,hzr,Sem.run_pure,Result.andThen_ok]
   rw [hzero _ (.inr ⟨h0,rfl⟩)]
   simp [newRow]
end
end Go.Abs
/- Stores and appends. -/
namespace Go.Abs
open Go.RowKit
section
variable {P:Program} {T:TT} {G:Nat} {w0 w:World} {ρ:Loc} {H:AHeap} {env:Env} {a:Act}

def putBlk (w:World) (b:Nat) (C:Array Value) (e:TypeId):World:={ w with heap:=w.heap.setIfInBounds b (.cells C e (0,0)) }
theorem zrs {b:Nat} {o:Obj} (h:w.heap[b]?=some o) (C:Array Value) (e:TypeId):(putBlk w b C e).heap[b]?=some (.cells C e (0,0)):=by
 simp [putBlk,zdf h]
theorem zlN (b:Nat) (C C2:Array Value) (e:TypeId):putBlk (putBlk w b C e) b C2 e=putBlk w b C2 e:=by
 simp [putBlk]
theorem zoO {b:Nat} {C:Array Value} {e:TypeId} (h:w.heap[b]?=some (.cells C e (0,0))):putBlk w b C e=w:=by
 obtain ⟨hlt,h'⟩:=Array.getElem?_eq_some_iff.1 h
 have:w.heap.setIfInBounds b (.cells C e (0,0))=w.heap:=by
  apply Array.ext
  ·simp
  ·intro i h1 h2
   by_cases hi:i=b
   ·subst hi;simp [h']
   ·rw [Array.getElem_setIfInBounds_ne];omega
 simp [putBlk,this]
theorem zjD {b:Nat} {C:Array Value} {e:TypeId} (h:w.heap[b]?=some (.cells C e (0,0))) (o:Nat) (v:Value):w.setCell ⟨b,o,none⟩ v=putBlk w b (C.setIfInBounds o v) e:=by
 obtain ⟨hlt,h'⟩:=Array.getElem?_eq_some_iff.1 h
 simp only [World.setCell,putBlk,World.mk.injEq,and_true,true_and]
 apply Array.ext
 ·simp
 ·intro i h1 h2
  by_cases hi:i=b
  ·subst hi;simp [Array.getElem_modify,h']
  ·rw [Array.getElem_setIfInBounds_ne _ (by omega),Array.getElem_modify,if_neg (by omega)]
theorem zcg {b:Nat} {e:TypeId}:∀ (vs:List Value) (w:World) (C:Array Value) (c:Addr) (o i:Nat),c=⟨b,o,none⟩→w.heap[b]?=some (.cells C e (0,0))→(vs=[]∨o+i+vs.length≤C.size)→(∀ v∈vs,v.oneCell'=true)→
 ∃ C':Array Value,C'.size=C.size∧C'.toList=C.toList.take (o+i)++vs++C.toList.drop (o+i+vs.length)∧(storeCells c vs i).run P w=.ok () (putBlk w b C' e)
 | [],w,C,c,o,i,hc,hw,hl,h1=>⟨C,rfl,by simp,by simp [storeCells,zoO hw]⟩
 | v::vs,w,C,c,o,i,hc,hw,hl,h1=>by
  have hadd:c.add i=⟨b,o+i,none⟩:=by subst hc;rw [Addr.add_eq _ rfl]
  have hl:=hl.resolve_left (by simp)
  simp only [List.length_cons] at hl
  have hcell:∃ u,w.cell? ⟨b,o+i,none⟩=some u:=⟨C[o+i]'(by omega),by simp [World.cell?,hw,Array.getElem?_eq_getElem (show o+i<C.size by omega)]⟩
  obtain ⟨u,hu⟩:=hcell
  have hfr:w.frozen? ⟨b,o+i,none⟩=false:=by simp [World.frozen?,hw]
  obtain ⟨C',g1,g2,g3⟩:=zcg vs (putBlk w b (C.setIfInBounds (o+i) v) e) (C.setIfInBounds (o+i) v) c o (i+1) hc (zrs hw _ _) (.inr (by simp;omega)) (fun x hx=>h1 x (by simp [hx]))
  refine ⟨C',by simpa using g1,?_,?_⟩
  ·rw [g2]
   have hb:o+i<C.toList.length:=by simp;omega
   simp only [Array.toList_setIfInBounds,List.length_cons]
   rw [show o+(i+1)=o+i+1 by omega,show o+i+1+vs.length=o+i+(vs.length+1) by omega]
   rw [List.take_add_one,List.getElem?_set_self (by simpa using hb),List.take_set_of_le (by omega),List.drop_set_of_lt (by omega)]
   simp
  ·simp only [storeCells,Sem.run_bind,hadd,run_store P w _ v _ (h1 v (by simp)),hu,hfr,Result.andThen_ok]
   rw [if_neg (by simp),Result.andThen_ok,zjD hw,g3,zlN]
theorem zcI {α:Type} (old cs:List α) (o i:Nat) (h:cs=[]∨o+cs.length≤old.length) :
 (old.take o++cs++old.drop (o+cs.length))[i]?=if i<o then old[i]? else if i<o+cs.length then cs[i-o]? else old[i]?:=by
 rcases h with rfl|h
 ·simp
  intros;omega
 ·by_cases h1:i<o
  ·rw [if_pos h1,List.append_assoc,List.getElem?_append_left (by simp;omega),List.getElem?_take_of_lt h1]
  ·rw [if_neg h1]
   by_cases h2:i<o+cs.length
   ·rw [if_pos h2,List.getElem?_append_left (by simp;omega),List.getElem?_append_right (by simp;omega)]
    congr 1;simp;omega
   ·rw [if_neg h2,List.getElem?_append_right (by simp;omega),List.getElem?_drop]
    congr 1;simp;omega
theorem zvx {b o:Nat} {cs:List Value} {K:AHeap→Prop} (h:stK H b o cs K):∃ old e,H[b]?=some (some (.row old e true))∧o+cs.length≤old.length∧(∀ v∈cs,v.oneCell'=true)∧
 K (H.set b (some (.row (old.take o++cs++old.drop (o+cs.length)) e true))):=by
 unfold stK at h;split at h
 ·exact ⟨_,_,by assumption,h⟩
 ·exact h.elim
theorem VRs.one {xs ys:List Value} (h:VRs ρ xs ys) (h1:∀ v∈xs,v.oneCell'=true):∀ v∈ys,v.oneCell'=true:=by
 intro v hv
 obtain ⟨i,hi,rfl⟩:=List.getElem_of_mem hv
 have hl:=h.length
 obtain ⟨v',e,r⟩:=h.get i xs[i] (by simp [hl,hi])
 simp [hi] at e
 rw [← e] at r
 rw [r.one]
 exact h1 _ (by simp)
theorem znY (hT:TT.ok P T) (R:Rel T G w0 ρ H w) {t:TypeId} {ti:TI} (ht:T t=some ti) {v v' p p':Value} (hv:VR ρ v v') (hp:VR ρ p p') {K:AHeap→Prop}
 (h:cellsOf ti.zero v fun cs=>pif (decide (cs.length=ti.size)) (asP p fun b o=>stK H b o cs K) False) :
 ∃ H' w',K H'∧Rel T G w0 ρ H' w'∧(Instr.storeAt t p' v').run P w=.ok () w':=by
 have h:=zeA h
 rcases zat h with ⟨hl,h⟩|⟨_,h⟩
 ·have hl:=of_decide_eq_true hl
  obtain ⟨b,o,rfl,h⟩:=zbS h
  obtain ⟨old,e,hb,hlen,hone,hk⟩:=zvx h
  obtain ⟨r,hr,rfl⟩:=hp.ptr_inv
  obtain ⟨r1,C,e',fr,g1,g2,g3,g4,g5,g6⟩:=R.row b old e true hb
  rw [hr] at g1
  obtain rfl:=Option.some.inj g1
  obtain ⟨rfl,rfl,g8⟩:=g5 rfl
  have hvs:=hv.cells
  have hvl:=hvs.length
  have hsz:v'.cells.toList=[]∨r.sh+o+0+v'.cells.toList.length≤C.size:=by
   rcases Nat.eq_zero_or_pos old.length with h0|h0
   ·left
    exact List.length_eq_zero_iff.1 (by omega)
   ·obtain ⟨_,v',hv',_⟩:=g4 (old.length-1) old[old.length-1] (List.getElem?_eq_getElem _)
    have:=zdf hv'
    right;omega
  obtain ⟨C',k1,k2,k3⟩:=zcg (P:=P) v'.cells.toList w C ⟨r.blk,r.sh+o,none⟩ (r.sh+o) 0 rfl g2 hsz (hvs.one hone)
  refine ⟨_,putBlk w r.blk C' e',hk,?_,?_⟩
  ·refine R.turn (b:=b) (b':=b) (sh':=r.sh) (cs':=old.take o++v.cells.toList++old.drop (o+v.cells.toList.length)) hb hr C' k1 g2 rfl ρ (Loc.le_refl ρ) ?_ (by simp) (fun x s hs=>by have:=R.dom x s hs;simpa using this) (by simpa using hr) ?_
   ·intro x o' hx
    by_cases hxb:x=b
    ·subst hxb
     rw [List.getElem?_set_self (zaj hb)] at hx
     exact .inl ⟨rfl,(Option.some.inj (Option.some.inj hx)).symm⟩
    ·rw [List.getElem?_set_ne (by omega)] at hx
     exact .inr ⟨hxb,hxb,hx,rfl⟩
   ·intro i u hu
    rw [zcI _ _ _ _ (.inr hlen)] at hu
    have hC:=zcI C.toList v'.cells.toList (r.sh+o) (r.sh+i) (by simpa using hsz)
    simp only [Nat.add_zero] at k2
    rw [← k2] at hC
    simp only [Array.getElem?_toList,← hvl] at hC
    rw [hC]
    by_cases h1:i<o
    ·rw [if_pos h1] at hu
     rw [if_pos (by omega)]
     exact g4 i u hu
    ·rw [if_neg h1] at hu
     rw [if_neg (by omega)]
     by_cases h2:i<o+v.cells.toList.length
     ·rw [if_pos h2] at hu
      rw [if_pos (by omega)]
      obtain ⟨u',q2,q3⟩:=hvs.get _ u hu
      refine ⟨hone u (List.mem_of_getElem? hu),u',?_,q3⟩
      rw [show r.sh+i-(r.sh+o)=i-o by omega];simpa using q2
     ·rw [if_neg h2] at hu
      rw [if_neg (by omega)]
      exact g4 i u hu
  ·simp only [Instr.storeAt,Instr.sureAddr,Sem.run_bind,Sem.run_pure,Result.andThen_ok,storeVar,zaS hT ht]
   rw [if_neg (by simp at hvl;simp at hl;simp;omega)]
   simp only [pure_bind,k3]
 ·exact h.elim
theorem zme (n:Nat):∀ (k c:Nat),Builtin.growBy n k c+768≤2^k*(c+768)
 | 0,c=>by simp [Builtin.growBy]
 | k+1,c=>by
  unfold Builtin.growBy
  split
  ·have:1≤2^(k+1):=Nat.one_le_two_pow
   calc c+768=1*(c+768):=by omega
    _≤2^(k+1)*(c+768):=Nat.mul_le_mul_right _ this
  ·have h:=zme n k (c+(c+768)/4)
   have h2:c+(c+768)/4+768≤2*(c+768):=by omega
   calc _≤2^k*(c+(c+768)/4+768):=h
    _≤2^k*(2*(c+768)):=Nat.mul_le_mul_left _ h2
    _=2^(k+1)*(c+768):=by rw [Nat.pow_succ,Nat.mul_assoc]
theorem ze4 {need cap:Nat} (h:need≤4294967296) (h2:cap<need):Builtin.nextslicecap need cap≤68719489024:=by
 unfold Builtin.nextslicecap
 split
 ·omega
 ·split
  ·omega
  ·have:=zme need 4 cap
   omega
theorem zqX (R:Rel T G w0 ρ H w) {e:TypeId} {ti:TI} (he:T e=some ti) {s s':Value} {n:Nat} {ss:List Value} {H':AHeap} (h:ownAt H e s ti.size n ss H') (hs:VR ρ s s') :
    ∃ y cap',s'=.slice y n cap'∧n≤cap'∧ss.length=n*ti.size∧(∀ v∈ss,v.oneCell'=true)∧
      (cap'=0∧n=0∧ss=[]∧H'=H∨
       (∃ b o cs r,H[b]?=some (some (.row cs e true))∧ρ b=some r∧H'=H.set b none∧y=some ⟨r.blk,r.sh+o,none⟩∧o+n*ti.size≤cs.length∧ss=(cs.drop o).take (n*ti.size)∧(cap'=n∨r.sh+o+cap'*r.sz≤r.N))∨
       cap'=0∧n=0∧ss=[]∧∃ b,H'=H.set b none):=by
  rcases h with ⟨rfl,rfl,rfl,rfl⟩|⟨x,rfl,rfl,rfl,rfl⟩|⟨b,o,c,cs,rfl,hb,hle,rfl,rfl⟩
  · exact ⟨none,0,hs.scalar_inv rfl,Nat.le_refl _,by simp,by simp,.inl ⟨rfl,rfl,rfl,rfl⟩⟩
  · obtain ⟨y,c',rfl,h1,h2,_⟩:=hs.slice_inv
    have:=h2 rfl
    subst this
    exact ⟨some y,0,rfl,Nat.le_refl _,by simp,by simp,.inl ⟨rfl,rfl,rfl,rfl⟩⟩
  · obtain ⟨y,c',rfl,h1,h2,h3⟩:=hs.slice_inv
    have hone:∀ v∈(cs.drop o).take (n*ti.size),v.oneCell'=true:=by
      intro v hv
      obtain ⟨r,C,e',fr,_,_,_,g4,_⟩:=R.row b cs e true hb
      have hv':=List.mem_of_mem_drop (List.mem_of_mem_take hv)
      obtain ⟨i,hi,rfl⟩:=List.getElem_of_mem hv'
      exact (g4 i _ (List.getElem?_eq_getElem hi)).1
    refine ⟨some y,c',rfl,h1,by simp;omega,hone,?_⟩
    rcases h3 with ⟨rfl,rfl⟩|⟨r,hr,_,hy,hcap⟩
    · exact .inr (.inr ⟨rfl,rfl,by simp,b,rfl⟩)
    · exact .inr (.inl ⟨b,o,cs,r,hb,hr,rfl,by rw [hy],hle,rfl,hcap⟩)

theorem zcA:∀ (l:List Value) (w:World) (c:Addr) (i:Nat) (acc:Array Value),(∀ (j:Nat) v,l[j]?=some v→w.cell? (c.add (i+j))=some v)→
 (loadCellsFrom c i l.length acc).run P w=.ok (acc++l.toArray) w
 | [],w,c,i,acc,h=>by simp [loadCellsFrom]
 | v::l,w,c,i,acc,h=>by
  have h0:=h 0 v (by simp)
  simp only [Nat.add_zero] at h0
  simp only [List.length_cons,loadCellsFrom,Sem.run_bind,run_load,h0,Result.andThen_ok]
  rw [zcA l w c (i+1) (acc.push v) (fun j u hu=>by
   have:=h (j+1) u (by simpa using hu);rw [← this];congr 2;omega)]
  simp
theorem zcq {l:List Value} {c:Addr} (h:∀ (j:Nat) v,l[j]?=some v→w.cell? (c.add j)=some v):(loadCells c l.length).run P w=.ok l.toArray w:=by
 have:=zcA (P:=P) l w c 0 #[] (by simpa using h)
 simpa [loadCells] using this
theorem zgv (R:Rel T G w0 ρ H w) {b:Nat} {r:Blk} (hr:ρ b=some r):∀ (l:List Value) (o:Nat),(∀ (j:Nat) v,l[j]?=some v→H.cell b (o+j)=some v)→
 ∃ l',VRs ρ l l'∧∀ (j:Nat) v,l'[j]?=some v→w.cell? ⟨r.blk,r.sh+o+j,none⟩=some v
 | [],o,h=>⟨[],.nil,by simp⟩
 | v::l,o,h=>by
  obtain ⟨_,r',v',hr',hv,hvr⟩:=R.cell (h 0 v (by simp))
  rw [hr] at hr'
  obtain rfl:=Option.some.inj hr'
  obtain ⟨l',g1,g2⟩:=zgv R hr l (o+1) (fun j u hu=>by have:=h (j+1) u (by simpa using hu);rw [← this];congr 1;omega)
  refine ⟨v'::l',.cons _ _ _ _ hvr g1,fun j u hu=>?_⟩
  cases j with
  | zero=>simp at hu;subst hu;simpa using hv
  | succ j=>simp at hu;have:=g2 j u hu;rw [← this];congr 2;omega
theorem znc {w2:World} (h:w2.heap=w.heap) (c:Addr):w2.cell? c=w.cell? c:=by simp [World.cell?,h]
theorem zhC (R:Rel T G w0 ρ H w) {x x':Value} {sz m:Nat} {xs:List Value} (h:cellsAt H x sz m xs) (hx:VR ρ x x') :
 ∃ y c',x'=.slice y m c'∧xs.length=m*sz∧((m=0∧xs=[])∨∃ c xs',y=some c∧VRs ρ xs xs'∧(∀ v∈xs,v.oneCell'=true)∧∀ w2:World,w2.heap=w.heap→(loadCells c (m*sz)).run P w2=.ok xs'.toArray w2):=by
 obtain ⟨hl,a,c,rfl,h⟩:=h
 cases hx with
 | scalar _ hs=>
  cases a with
  | some a=>simp [Abs.scalar] at hs
  | none=>
   refine ⟨none,c,rfl,hl,?_⟩
   rcases h with rfl|⟨b,o,h,_⟩
   ·exact .inl ⟨rfl,List.length_eq_zero_iff.1 (by simpa using hl)⟩
   ·cases h
 | slice a' c2 _ _ cap' hs=>
  refine ⟨some c2,cap',rfl,hl,?_⟩
  rcases h with rfl|⟨b,o,h,hcell⟩
  ·exact .inl ⟨rfl,List.length_eq_zero_iff.1 (by simpa using hl)⟩
  ·obtain rfl:=Option.some.inj h
   obtain ⟨h1,h2,h3⟩:=hs
   rcases h3 with ⟨rfl,_⟩|⟨r,hr,_,hy,_⟩
   ·exact .inl ⟨rfl,List.length_eq_zero_iff.1 (by simpa using hl)⟩
   ·obtain ⟨l',g1,g2⟩:=zgv R hr xs o hcell
    refine .inr ⟨c2,l',rfl,g1,?_,?_⟩
    ·intro v hv
     obtain ⟨i,hi,rfl⟩:=List.getElem_of_mem hv
     exact (R.cell (hcell i _ (List.getElem?_eq_getElem hi))).1
    ·intro w2 hw2
     rw [← hl,g1.length]
     apply zcq
     intro j v hv
     rw [znc hw2,hy,Addr.add_eq _ rfl]
     exact g2 j v hv
theorem zdp (hT:TT.ok P T) {t t2 e:TypeId} {i i2 ti:TI} (hi:T t=some i) (hd:i.desc=.slice e) (hi2:T t2=some i2) (hd2:∀ k,i2.desc≠.int k) (he:T e=some ti) (ty:TypeId)
 {y:Option Addr} {n c m c2:Nat} {x:Option Addr} {xs:Array Value} (hroom:n+m≤c) (hload:(Builtin.firstCells ti.size m (.slice x m c2)).run P w=.ok xs w) :
 (Builtin.append_ #[t,t2] ty #[.slice y n c,.slice x m c2]).run P w =
  match y with
  | some a=>((storeCells (a.add (n*ti.size)) xs.toList).run P w).andThen fun _ w'=>.ok (.slice y (n+m) c) w'
  | none=>.ok (.slice y (n+m) c) w:=by
 have hu:=zal (w:=w) hT hi
 have hu2:=zal (w:=w) hT hi2
 have hs:=zaS (w:=w) hT he
 have hz:(i2.desc matches .int _)=false:=by
  cases h:i2.desc <;> first|rfl|exact absurd h (hd2 _)
 unfold Builtin.append_
 simp only [List.getElem?_toArray,List.getElem?_cons_zero,List.getElem?_cons_succ,Sem.run_bind,hu,hd,Result.andThen_ok,hs,hu2,Sem.run_pure]
 simp only [Bool.false_eq_true,if_false,Builtin.lenOf,Sem.run_bind,Sem.run_pure,Result.andThen_ok,Bool.not_false,if_true]
 rw [if_pos hroom]
 simp only [Sem.run_bind,hload,Result.andThen_ok]
 cases y with
 | none=>simp
 | some a=>simp
theorem zjh (hT:TT.ok P T) {t t2 e:TypeId} {i i2 ti:TI} (hi:T t=some i) (hd:i.desc=.slice e) (hi2:T t2=some i2) (hd2:∀ k,i2.desc≠.int k) (he:T e=some ti) (ty:TypeId)
 {y:Option Addr} {n c m c2:Nat} {x:Option Addr} {ss xs:Array Value} (hroom:¬ n+m≤c) (hneed:n+m≤4294967296) (hby:ti.bytes≤1024)
 (hold:∀ w2:World,w2.heap=w.heap→(Builtin.firstCells ti.size n (.slice y n c)).run P w2=.ok ss w2) (hload:∀ w2:World,w2.heap=w.heap→(Builtin.firstCells ti.size m (.slice x m c2)).run P w2=.ok xs w2) :
 ∃ (newCap:Nat) (rest:Array Value) (d:Nat),n+m≤newCap∧rest.size=(newCap-(n+m))*ti.zero.cells.size∧(Builtin.append_ #[t,t2] ty #[.slice y n c,.slice x m c2]).run P w =
  .ok (.slice (some ⟨w.heap.size,0,none⟩) (n+m) newCap) { { w with drawn:=d } with heap:=w.heap.push (.cells (ss++xs++rest) e) }:=by
 have hu:=fun w2:World=>zal (w:=w2) hT hi
 have hu2:=fun w2:World=>zal (w:=w2) hT hi2
 have hs:=fun w2:World=>zaS (w:=w2) hT he
 have hzr:=fun w2:World=>zbv (w:=w2) hT he
 obtain ⟨j,hj1,hj2,hj3,hj4⟩:=zeE (w:=w) hT he
 have hty:∀ w2:World,(typeInfo e).run P w2=.ok j w2:=by
  intro w2
  obtain ⟨_,j',g1,_⟩:=hT e ti he
  simp only [typeInfo,Sem.run_bind,run_program,Result.andThen_ok,g1,Sem.run_pure] at hj1 ⊢
  simp only [Result.ok.injEq,and_true] at hj1
  rw [hj1]
 have hz:(i2.desc matches .int _)=false:=by
  cases h:i2.desc <;> first|rfl|exact absurd h (hd2 _)
 have hcap:¬ Builtin.nextslicecap (n+m) c*j.bytes>2^48:=by
  have h1:=ze4 hneed (show c<n+m by omega)
  have h2:Builtin.nextslicecap (n+m) c*j.bytes≤68719489024*1024:=Nat.mul_le_mul h1 (by omega)
  omega
 refine ⟨(Question.appendCap (n+m) c e).cut (w.tape w.drawn (.appendCap (n+m) c e)),Builtin.zeroCells ti.zero.cells ((Question.appendCap (n+m) c e).cut (w.tape w.drawn (.appendCap (n+m) c e))-(n+m)),w.drawn+1,?_,?_,?_⟩
 ·simp [Question.cut]
 ·simp [Builtin.zeroCells]
 ·unfold Builtin.append_
  simp only [List.getElem?_toArray,List.getElem?_cons_zero,List.getElem?_cons_succ,Sem.run_bind,hu,hd,Result.andThen_ok,hs,hu2,Sem.run_pure]
  simp only [Bool.false_eq_true,if_false,Builtin.lenOf,Sem.run_bind,Sem.run_pure,Result.andThen_ok,Bool.not_false,if_true,false_or]
  rw [if_neg hroom]
  have h64:¬ (((n+m:Nat):Int)>IntKind.i64.max∧j.bytes=0):=by
   simp [IntKind.max,IntKind.bits,IntKind.signed];omega
  simp only [Sem.run_bind,hty,Result.andThen_ok,pure_bind]
  rw [if_neg h64]
  simp only [Result.andThen_ok,Sem.run_bind,hty,if_neg hcap,Sem.run_pure,run_choose,Question.forced,Bool.false_eq_true,if_false,run_askRoom,hzr]
  simp [newRow,hzr]
  rw [hold w.drew rfl]
  simp only [Result.andThen_ok]
  rw [hload w.drew rfl]
  simp
  rfl
theorem zmR (hT:TT.ok P T) (R:Rel T G w0 ρ H w) {t t2 e:TypeId} {i i2 ti:TI} (hi:T t=some i) (hd:i.desc=.slice e) (hi2:T t2=some i2) (hd2:∀ k,i2.desc≠.int k) (he:T e=some ti) (ty:TypeId)
 {s s' x x':Value} (hs:VR ρ s s') (hx:VR ρ x x') {K:Value→AHeap→Prop} (h:apK T e H s x K):Turns P T G w0 ρ w (Builtin.append_ #[t,t2] ty #[s',x']) K:=by
 unfold apK at h
 simp only [he] at h
 obtain ⟨m,xs,hxs,h⟩:=h
 obtain ⟨xa,c2,rfl,hxl,hxv⟩:=zhC (P:=P) R hxs hx
 rcases h with ⟨rfl,hsl,hk⟩|⟨hm,n,ss,H',hown,hnm,hby,hfine,hsz,hk⟩
 ·have hload:(Builtin.firstCells ti.size 0 (.slice xa 0 c2)).run P w=.ok #[] w:=by
   cases xa <;> simp [Builtin.firstCells,loadCells,loadCellsFrom]
  rcases hsl with ⟨sa,n,c,rfl⟩|rfl
  ·obtain ⟨y,c',rfl,h1,h2,h3⟩:=hs.slice_inv
   refine ⟨_,_,ρ,H,w,hk,Loc.le_refl _,hs,R,?_⟩
   rw [zdp (w:=w) hT hi hd hi2 hd2 he ty (by omega) hload]
   simp [storeCells]
  ·rw [hs.scalar_inv rfl]
   refine ⟨_,_,ρ,H,w,hk,Loc.le_refl _,.scalar _ rfl,R,?_⟩
   rw [zdp (w:=w) hT hi hd hi2 hd2 he ty (by omega) hload]
 ·rcases hxv with ⟨rfl,_⟩|⟨xc,xs',rfl,hvx,hox,hlx⟩
  ·omega
  obtain ⟨y,c',rfl,hle,hssl,hos,hcase⟩:=zqX R he hown hs
  have hload:∀ w2:World,w2.heap=w.heap→(Builtin.firstCells ti.size m (.slice (some xc) m c2)).run P w2=.ok xs'.toArray w2:=by
   intro w2 hw2
   simpa [Builtin.firstCells] using hlx w2 hw2
  have hxl':=hvx.length
  -- the row in new memory
  have grown:∀ (ss':List Value),VRs ρ ss ss'→ss'.length=n*ti.size→¬ n+m≤c'→(∀ w2:World,w2.heap=w.heap→(Builtin.firstCells ti.size n (.slice y n c')).run P w2=.ok ss'.toArray w2)→(∃ b,H'=H.set b none)∨H'=H→
   Turns P T G w0 ρ w (Builtin.append_ #[t,t2] ty #[.slice y n c',.slice (some xc) m c2]) K:=by
   intro ss' hvs hsl' hroom hold hH'
   obtain ⟨newCap,rest,d,g1,g2,g3⟩:=zjh (w:=w) hT hi hd hi2 hd2 he ty hroom hnm hby hold hload
   have R':Rel T G w0 ρ H' { w with drawn:=d }:=by
    rcases hH' with ⟨b,rfl⟩|rfl
    ·exact (R.kill b).drew d
    ·exact R.drew d
   have hlen:H'.length=H.length:=by
    rcases hH' with ⟨b,rfl⟩|rfl
    ·simp
    ·rfl
   have R2:=R'.new (ss'.toArray++xs'.toArray++rest) e he (hvs.append hvx) (by
    intro v hv
    rcases List.mem_append.1 hv with hv|hv
    ·exact hos v hv
    ·exact hox v hv) (by
    intro j v' hj
    have:(ss'.toArray++xs'.toArray++rest)=(ss'++xs'++rest.toList).toArray:=by simp
    rw [this,List.getElem?_toArray,List.getElem?_append_left (zaj hj)];exact hj)
   refine ⟨_,.slice (some ⟨w.heap.size,0,none⟩) (n+m) newCap,_,_,_,hk,R'.le_upd _,?_,R2,g3⟩
   have hloc:H'.length=H.length:=hlen
   refine .slice _ _ _ _ _ ⟨g1,by omega,.inr ⟨⟨w.heap.size,0,(ss'.toArray++xs'.toArray++rest).size,ti.size⟩,?_,rfl,by simp,.inr ?_⟩⟩
   ·show Loc.upd ρ H'.length _ H.length=_
    rw [hloc];exact Loc.upd_same _ _ _
   ·have hz:ti.zero.cells.size=ti.size:=by
     rcases zlD hfine with ⟨zs,hz,hs,_⟩|⟨h1,h2,hs,_⟩
     ·rw [hz];simpa [Value.cells] using hs
     ·rw [hs]
      cases hzz:ti.zero <;> first|rfl|exact absurd hzz (h1 _)
    simp only [Array.size_append,List.size_toArray,g2,hz,hsl',← hxl',hxl]
    rw [← Nat.add_mul,← Nat.add_mul]
    simp only [Nat.zero_add]
    exact Nat.mul_le_mul_right _ (by omega)
  rcases hcase with ⟨rfl,rfl,rfl,rfl⟩|⟨b,o,cs,r,hb,hr,rfl,rfl,hocs,rfl,hcap⟩|⟨rfl,rfl,rfl,b,rfl⟩
  ·exact grown [] .nil (by simp) (by omega) (fun w2 _=>by cases y <;> simp [Builtin.firstCells,loadCells,loadCellsFrom]) (.inr rfl)
  ·obtain ⟨r1,C,e',fr,g1,g2,g3,g4,g5,tj,g6,g7⟩:=R.row b cs e true hb
   rw [hr] at g1
   obtain rfl:=Option.some.inj g1
   obtain ⟨rfl,rfl,g8⟩:=g5 rfl
   rw [he] at g6
   obtain rfl:=Option.some.inj g6
   obtain ⟨ss',hvs,hcell⟩:=zgv R hr ((cs.drop o).take (n*ti.size)) o (by
    intro j v hj
    have hjl:=zaj hj
    simp at hjl
    rw [List.getElem?_take_of_lt (by omega),List.getElem?_drop] at hj
    simpa [AHeap.cell,hb] using hj)
   have hsl':=hvs.length
   rw [hssl] at hsl'
   by_cases hroom:n+m≤c'
   ·have hlim:r.sh+o+c'*ti.size≤C.size:=by
     rcases hcap with hcap|hcap
     ·omega
     ·rw [g3,← g7];exact hcap
    have hmul:(n+m)*ti.size≤c'*ti.size:=Nat.mul_le_mul_right _ hroom
    rw [Nat.add_mul] at hmul
    obtain ⟨C',k1,k2,k3⟩:=zcg (P:=P) xs' w C ⟨r.blk,r.sh+o+n*ti.size,none⟩ (r.sh+o+n*ti.size) 0 rfl g2 (.inr (by rw [← hxl',hxl];omega)) (hvx.one hox)
    have hH:(H.set b none).length=H.length:=by simp
    refine ⟨_,.slice (some ⟨r.blk,r.sh+o,none⟩) (n+m) c',ρ.upd H.length { r with sh:=r.sh+o },_,putBlk w r.blk C' e',hk,R.le_upd _,?_,?_,?_⟩
    ·refine .slice _ _ _ _ _ ⟨hroom,by omega,.inr ⟨_,Loc.upd_same _ _ _,rfl,by simp,.inr ?_⟩⟩
     simp only [Nat.add_zero]
     rw [g7,← g3];exact hlim
    ·refine R.turn (b:=b) (b':=H.length) (sh':=r.sh+o) (cs':=(cs.drop o).take (n*ti.size)++xs) hb hr C' k1 g2 rfl _ (R.le_upd _) ?_ (by simp) ?_ (Loc.upd_same _ _ _) ?_
     ·intro y q hy
      by_cases hyl:y=H.length
      ·subst hyl
       rw [List.getElem?_append_right (by simp)] at hy
       simp at hy
       exact .inl ⟨rfl,by rw [← hy]⟩
      ·have hyl2:=zaj hy
       simp at hyl2
       rw [List.getElem?_append_left (by simp;omega)] at hy
       by_cases hyb:y=b
       ·subst hyb
        rw [List.getElem?_set_self (zaj hb)] at hy
        cases hy
       ·rw [List.getElem?_set_ne (by omega)] at hy
        exact .inr ⟨hyl,hyb,hy,Loc.upd_ne _ _ hyl⟩
     ·intro y q hy
      by_cases hyl:y=H.length
      ·subst hyl
       rw [Loc.upd_same] at hy
       obtain rfl:=Option.some.inj hy
       exact ⟨by simp,(R.dom _ _ hr).2⟩
      ·rw [Loc.upd_ne _ _ hyl] at hy
       have:=R.dom _ _ hy
       exact ⟨by simp;omega,this.2⟩
     ·intro j v hj
      have hC:=zcI C.toList xs' (r.sh+o+n*ti.size) (r.sh+o+j) (.inr (by rw [← hxl',hxl];simp;omega))
      simp only [Nat.add_zero] at k2
      rw [← k2] at hC
      simp only [Array.getElem?_toList] at hC
      by_cases hj1:j<n*ti.size
      ·rw [List.getElem?_append_left (by omega)] at hj
       obtain ⟨v',q1,q2⟩:=hvs.get j v hj
       refine ⟨hos v (List.mem_of_getElem? hj),v',?_,q2.mono (R.le_upd _)⟩
       rw [hC,if_pos (by omega)]
       have:=hcell j v' q1
       simpa [World.cell?,g2] using this
      ·rw [List.getElem?_append_right (by omega)] at hj
       obtain ⟨v',q1,q2⟩:=hvx.get _ v hj
       refine ⟨hox v (List.mem_of_getElem? hj),v',?_,q2.mono (R.le_upd _)⟩
       have hjx:=zaj hj
       rw [hC,if_neg (by omega),if_pos (by omega)]
       rw [← q1,hssl];congr 1;omega
    ·rw [zdp (w:=w) hT hi hd hi2 hd2 he ty hroom (hload w rfl)]
     simp only [Addr.add_eq,List.toList_toArray,k3,Result.andThen_ok]
   ·refine grown ss' hvs (by omega) hroom (fun w2 hw2=>?_) (.inl ⟨b,rfl⟩)
    have hl2:n*ti.size=ss'.length:=by omega
    simp only [Builtin.firstCells,hl2]
    apply zcq
    intro j v hv
    rw [znc hw2,Addr.add_eq _ rfl]
    exact hcell j v hv
  ·exact grown [] .nil (by simp) (by omega) (fun w2 _=>by cases y <;> simp [Builtin.firstCells,loadCells,loadCellsFrom]) (.inl ⟨b,rfl⟩)
theorem zhk {z:Array Value} {zs:List Value} (hz:z.toList=zs) (n:Nat):(Builtin.zeroCells z n).toList=(List.replicate n zs).flatten:=by
 subst hz
 exact zlj z n
theorem zix (hT:TT.ok P T) {t t2 e:TypeId} {i i2 ti:TI} (hi:T t=some i) (hd:i.desc=.slice e) (hi2:T t2=some i2) {k2:IntKind} (hd2:i2.desc=.int k2) (he:T e=some ti) (ty:TypeId)
 {k:IntKind} {n:Int} (h0:0<n) (hn:n≤4294967296) (hby:ti.bytes≤1024) (hsz:0<ti.size) :
 ∃ (newCap:Nat) (rest:Array Value) (d:Nat),n.toNat≤newCap∧rest.size=(newCap-n.toNat)*ti.zero.cells.size∧(Builtin.append_ #[t,t2] ty #[.slice none 0 0,.int k n]).run P w =
  .ok (.slice (some ⟨w.heap.size,0,none⟩) n.toNat newCap) { { w with drawn:=d } with heap:=w.heap.push (.cells (Builtin.zeroCells ti.zero.cells n.toNat++rest) e) }:=by
 have hu:=fun w2:World=>zal (w:=w2) hT hi
 have hu2:=fun w2:World=>zal (w:=w2) hT hi2
 have hs:=fun w2:World=>zaS (w:=w2) hT he
 have hzr:=fun w2:World=>zbv (w:=w2) hT he
 obtain ⟨j,hj1,hj2,hj3,hj4⟩:=zeE (w:=w) hT he
 have hty:∀ w2:World,(typeInfo e).run P w2=.ok j w2:=by
  intro w2
  obtain ⟨_,j',g1,_⟩:=hT e ti he
  simp only [typeInfo,Sem.run_bind,run_program,Result.andThen_ok,g1,Sem.run_pure] at hj1 ⊢
  simp only [Result.ok.injEq,and_true] at hj1
  rw [hj1]
 obtain ⟨m,rfl⟩:∃ m:Nat,n=m:=⟨n.toNat,by omega⟩
 rw [Int.toNat_natCast]
 have hm0:m≠0:=by omega
 have hcap:¬ Builtin.nextslicecap (0+m) 0*j.bytes>2^48:=by
  have h1:=ze4 (need:=0+m) (cap:=0) (by omega) (by omega)
  have h2:Builtin.nextslicecap (0+m) 0*j.bytes≤68719489024*1024:=Nat.mul_le_mul h1 (by omega)
  omega
 have w1:IntKind.i64.wrap (m:Int)=m:=by simp [IntKind.wrap,IntKind.bits,IntKind.signed];omega
 have hb:¬ ((m:Int)*(j.bytes:Nat)>2^48):=by
  rw [hj3]
  have:(m:Int)*(ti.bytes:Int)≤4294967296*1024:=Int.mul_le_mul (by omega) (by omega) (by omega) (by omega)
  omega
 refine ⟨(Question.appendCap (0+m) 0 e).cut (w.tape w.drawn (.appendCap (0+m) 0 e)),Builtin.zeroCells ti.zero.cells ((Question.appendCap (0+m) 0 e).cut (w.tape w.drawn (.appendCap (0+m) 0 e))-(0+m)),w.drawn+1,?_,?_,?_⟩
 ·simp [Question.cut]
 ·simp [Builtin.zeroCells]
 ·have hz:m*ti.size≠0:=Nat.mul_ne_zero hm0 (by omega)
  unfold Builtin.append_
  simp only [List.getElem?_toArray,List.getElem?_cons_zero,List.getElem?_cons_succ,Sem.run_bind,hu,hd,Result.andThen_ok,hs,hu2,hd2,Sem.run_pure]
  simp only [if_true,asInt,asIntOf,Sem.run_bind,Sem.run_pure,Result.andThen_ok,w1]
  rw [if_neg (by omega)]
  simp only [Sem.run_bind,Sem.run_pure,Result.andThen_ok,hty,pure_bind]
  rw [if_neg hb]
  simp only [Sem.run_bind,Sem.run_pure,Result.andThen_ok,pure_bind,Int.toNat_natCast]
  rw [if_neg (by omega)]
  have h64:¬ (((0+m:Nat):Int)>IntKind.i64.max∧(true=true∨j.bytes=0)):=by
   simp [IntKind.max,IntKind.bits,IntKind.signed];omega
  simp only [true_or,and_true] at h64
  simp only [Sem.run_bind,hty,Result.andThen_ok,pure_bind,true_or,and_true]
  rw [if_neg h64]
  simp only [Result.andThen_ok,Sem.run_bind,hty,if_neg hcap,Sem.run_pure,run_choose,Question.forced,Bool.false_eq_true,if_false,run_askRoom,hzr]
  simp [newRow,hzr,Builtin.firstCells,hz]
  rfl
theorem zll (hT:TT.ok P T) (R:Rel T G w0 ρ H w) {t t2 e:TypeId} {i i2:TI} (hi:T t=some i) (hd:i.desc=.slice e) (hi2:T t2=some i2) {k2:IntKind} (hd2:i2.desc=.int k2) (ty:TypeId)
 {s s' x x':Value} (hs:VR ρ s s') (hx:VR ρ x x') {K:Value→AHeap→Prop} (h:apN T e H s x K):Turns P T G w0 ρ w (Builtin.append_ #[t,t2] ty #[s',x']) K:=by
 obtain ⟨ti,k,n,he,rfl,rfl,h0,hn,hby,hfine,hsz,h⟩:=h
 obtain ⟨zs,hz,hzs,hzl,hk⟩:=zdM h
 rw [hs.scalar_inv rfl,hx.int_inv]
 obtain ⟨newCap,rest,d,g1,g2,g3⟩:=zix (P:=P) (w:=w) hT hi hd hi2 hd2 he ty (k:=k) h0 hn hby hsz
 have hzc:=zhk hz n.toNat
 have hone:∀ v∈(List.replicate n.toNat zs).flatten,v.oneCell'=true:=by
  intro v hv
  simp at hv hzs
  obtain ⟨l,⟨_,rfl⟩,hv⟩:=hv
  exact zfg (hzs v hv)
 have R':Rel T G w0 ρ H { w with drawn:=d }:=R.drew d
 have R2:=R'.new (Builtin.zeroCells ti.zero.cells n.toNat++rest) e he (VRs.flatten_scalars (ρ:=ρ) hzs n.toNat) hone (by
  intro j v' hj
  rw [← Array.getElem?_toList,Array.toList_append,hzc,List.getElem?_append_left (zaj hj)];exact hj)
 refine ⟨_,.slice (some ⟨w.heap.size,0,none⟩) n.toNat newCap,_,_,_,hk,R'.le_upd _,?_,R2,g3⟩
 refine .slice _ _ _ _ _ ⟨g1,by omega,.inr ⟨⟨w.heap.size,0,(Builtin.zeroCells ti.zero.cells n.toNat++rest).size,ti.size⟩,Loc.upd_same _ _ _,rfl,by simp,.inr ?_⟩⟩
 have hzsz:ti.zero.cells.size=ti.size:=by rw [← hzl,← hz];simp
 have h1:(Builtin.zeroCells ti.zero.cells n.toNat).size=n.toNat*ti.size:=by
  rw [← Array.length_toList,hzc];simp [hzl]
 rw [Array.size_append,h1,g2,hzsz,← Nat.add_mul]
 simp only [Nat.zero_add]
 exact Nat.mul_le_mul_right _ (by omega)
theorem VR.slice_len {x:Option Addr} {m c:Nat} {v:Value} (h:VR ρ (.slice x m c) v):∃ y c',v=.slice y m c':=by
 cases h with
 | scalar _ hs=>exact ⟨_,_,rfl⟩
 | slice a' c2 _ _ cap' hs=>exact ⟨_,_,rfl⟩
theorem zqN (hT:TT.ok P T) (R:Rel T G w0 ρ H w) {t t2 e:TypeId} {i:TI} (hi:T t=some i) (hd:i.desc=.slice e) (ty:TypeId)
 {s s' x x':Value} (hs:VR ρ s s') (hx:VR ρ x x') {K:Value→AHeap→Prop} (h:cpK T e H s x fun n G=>K (.int .i64 n) G):Turns P T G w0 ρ w (Builtin.copy_ #[t,t2] ty #[s',x']) K:=by
 unfold cpK at h
 split at h
 ·rename_i ti he
  have hu:=zal (w:=w) hT hi
  have hsz:=zaS (w:=w) hT he
  rcases h with ⟨a,m,c,a2,n,c2,rfl,rfl,hz,hk⟩|⟨sb,so,m,c,b,o,n,c2,old,xs,rfl,rfl,hb,hpos,hxl,hcell,hfit,hk⟩
  ·obtain ⟨y,c',rfl⟩:=hx.slice_len
   obtain ⟨y2,c2',rfl⟩:=hs.slice_len
   refine ⟨_,_,ρ,H,w,hk,Loc.le_refl _,.scalar _ rfl,R,?_⟩
   have hm:Nat.min m n=0:=by rcases hz with rfl|rfl <;> simp [Nat.min_def]
   have hload:(Builtin.firstCells ti.size 0 (.slice y m c')).run P w=.ok #[] w:=by
    cases y <;> simp [Builtin.firstCells,loadCells,loadCellsFrom]
   unfold Builtin.copy_
   simp only [List.getElem?_toArray,List.getElem?_cons_zero,List.getElem?_cons_succ,Sem.run_bind,hu,hd,Result.andThen_ok,hsz,Sem.run_pure,Builtin.lenOf,hm,hload]
   cases y2 <;> simp [storeCells,goInt]
  ·obtain ⟨y,c',rfl,h1,h2,h3⟩:=hx.slice_inv
   obtain ⟨y2,c2',rfl,k1,k2,k3⟩:=hs.slice_inv
   have hm:0<m∧0<n:=by simp only [Nat.min_def] at hpos;split at hpos <;> omega
   rcases h3 with ⟨_,_⟩|⟨r,hr,_,hy,_⟩
   ·omega
   rcases k3 with ⟨_,_⟩|⟨r2,hr2,_,hy2,_⟩
   ·omega
   obtain ⟨xs',hvs,hc2⟩:=zgv R hr xs so hcell
   have hvl:=hvs.length
   have hone:∀ v∈xs,v.oneCell'=true:=by
    intro v hv
    obtain ⟨i,hi,rfl⟩:=List.getElem_of_mem hv
    exact (R.cell (hcell i _ (List.getElem?_eq_getElem hi))).1
   obtain ⟨r1,C,e',fr,g1,g2,g3,g4,g5,g6⟩:=R.row b old e true hb
   rw [hr2] at g1
   obtain rfl:=Option.some.inj g1
   obtain ⟨rfl,rfl,g8⟩:=g5 rfl
   have hsz2:xs'=[]∨r2.sh+o+0+xs'.length≤C.size:=by
    rcases Nat.eq_zero_or_pos old.length with h0|h0
    ·left
     exact List.length_eq_zero_iff.1 (by omega)
    ·obtain ⟨_,v',hv',_⟩:=g4 (old.length-1) old[old.length-1] (List.getElem?_eq_getElem _)
     have:=zdf hv'
     right;omega
   obtain ⟨C',q1,q2,q3⟩:=zcg (P:=P) xs' w C ⟨r2.blk,r2.sh+o,none⟩ (r2.sh+o) 0 rfl g2 hsz2 (hvs.one hone)
   refine ⟨_,.int .i64 (Nat.min m n),ρ,_,putBlk w r2.blk C' e',hk,Loc.le_refl _,.scalar _ rfl,?_,?_⟩
   ·refine R.turn (b:=b) (b':=b) (sh':=r2.sh) (cs':=old.take o++xs++old.drop (o+xs.length)) hb hr2 C' q1 g2 rfl ρ (Loc.le_refl ρ) ?_ (by simp) (fun x s hs=>by have:=R.dom x s hs;simpa using this) (by simpa using hr2) ?_
    ·intro x o' hx
     by_cases hxb:x=b
     ·subst hxb
      rw [List.getElem?_set_self (zaj hb)] at hx
      exact .inl ⟨rfl,(Option.some.inj (Option.some.inj hx)).symm⟩
     ·rw [List.getElem?_set_ne (by omega)] at hx
      exact .inr ⟨hxb,hxb,hx,rfl⟩
    ·intro i u hu
     rw [zcI _ _ _ _ (.inr hfit)] at hu
     have hC:=zcI C.toList xs' (r2.sh+o) (r2.sh+i) (by simpa using hsz2)
     simp only [Nat.add_zero] at q2
     rw [← q2] at hC
     simp only [Array.getElem?_toList,← hvl] at hC
     rw [hC]
     by_cases h1:i<o
     ·rw [if_pos h1] at hu
      rw [if_pos (by omega)]
      exact g4 i u hu
     ·rw [if_neg h1] at hu
      rw [if_neg (by omega)]
      by_cases h2:i<o+xs.length
      ·rw [if_pos h2] at hu
       rw [if_pos (by omega)]
       obtain ⟨u',q2,q3⟩:=hvs.get _ u hu
       refine ⟨hone u (List.mem_of_getElem? hu),u',?_,q3⟩
       rw [show r2.sh+i-(r2.sh+o)=i-o by omega];simpa using q2
      ·rw [if_neg h2] at hu
       rw [if_neg (by omega)]
       exact g4 i u hu
   ·have hload:(Builtin.firstCells ti.size (Nat.min m n) (.slice (some y) m c')).run P w=.ok xs'.toArray w:=by
     have:Nat.min m n*ti.size=xs'.length:=by omega
     simp only [Builtin.firstCells,this]
     apply zcq
     intro j v hv
     rw [hy,Addr.add_eq _ rfl]
     exact hc2 j v hv
    unfold Builtin.copy_
    simp only [List.getElem?_toArray,List.getElem?_cons_zero,List.getElem?_cons_succ,Sem.run_bind,hu,hd,Result.andThen_ok,hsz,Sem.run_pure,Builtin.lenOf,hload]
    rw [hy2]
    simp only [List.toList_toArray,Sem.run_bind,q3,Result.andThen_ok,Sem.run_pure]
    rfl
 ·exact h.elim
theorem zoh (hT:TT.ok P T) (R:Rel T G w0 ρ H w) {t e:TypeId} {i:TI} (hi:T t=some i) (hd:i.desc=.slice e) (ty:TypeId)
 {s s':Value} (hs:VR ρ s s') {K:Value→AHeap→Prop} (h:clrK T e H s fun G=>K (.tuple ⟨[]⟩) G):Turns P T G w0 ρ w (Builtin.clear_ #[t] ty #[s']) K:=by
 unfold clrK at h
 split at h
 ·rename_i ti he
  have hu:=zal (w:=w) hT hi
  have hzr:=zbv (w:=w) hT he
  rcases h with ⟨a,c,rfl,hk⟩|⟨b,o,n,c2,old,rfl,hn,hb,hfit,h⟩
  ·obtain ⟨y,c',rfl⟩:=hs.slice_len
   refine ⟨_,.tuple ⟨[]⟩,ρ,H,w,hk,Loc.le_refl _,.tuple _ _ .nil,R,?_⟩
   unfold Builtin.clear_
   cases y <;> simp [hu,hd]
  ·obtain ⟨y2,c2',rfl,k1,k2,k3⟩:=hs.slice_inv
   obtain ⟨zs,hz,hzs,hzl,hk⟩:=zdM h
   rcases k3 with ⟨_,_⟩|⟨r2,hr2,_,hy2,_⟩
   ·omega
   obtain ⟨xs,hxs⟩:∃ xs,xs=(List.replicate n zs).flatten:=⟨_,rfl⟩
   have hvs:VRs ρ xs xs:=by rw [hxs];exact VRs.flatten_scalars hzs n
   have hxl:xs.length=n*ti.size:=by rw [hxs];simp [hzl]
   rw [← hxs,← hxl] at hk
   rw [← hxl] at hfit
   have hone:∀ v∈xs,v.oneCell'=true:=by
    intro v hv
    rw [hxs] at hv
    simp at hv hzs
    obtain ⟨l,⟨_,rfl⟩,hv⟩:=hv
    exact zfg (hzs v hv)
   obtain ⟨r1,C,e',fr,g1,g2,g3,g4,g5,g6⟩:=R.row b old e true hb
   rw [hr2] at g1
   obtain rfl:=Option.some.inj g1
   obtain ⟨rfl,rfl,g8⟩:=g5 rfl
   have hsz2:xs=[]∨r2.sh+o+0+xs.length≤C.size:=by
    rcases Nat.eq_zero_or_pos old.length with h0|h0
    ·left
     exact List.length_eq_zero_iff.1 (by omega)
    ·obtain ⟨_,v',hv',_⟩:=g4 (old.length-1) old[old.length-1] (List.getElem?_eq_getElem _)
     have:=zdf hv'
     right;omega
   obtain ⟨C',q1,q2,q3⟩:=zcg (P:=P) xs w C ⟨r2.blk,r2.sh+o,none⟩ (r2.sh+o) 0 rfl g2 hsz2 hone
   refine ⟨_,.tuple ⟨[]⟩,ρ,_,putBlk w r2.blk C' e',hk,Loc.le_refl _,.tuple _ _ .nil,?_,?_⟩
   ·refine R.turn (b:=b) (b':=b) (sh':=r2.sh) (cs':=old.take o++xs++old.drop (o+xs.length)) hb hr2 C' q1 g2 rfl ρ (Loc.le_refl ρ) ?_ (by simp) (fun x s hs=>by have:=R.dom x s hs;simpa using this) (by simpa using hr2) ?_
    ·intro x o' hx
     by_cases hxb:x=b
     ·subst hxb
      rw [List.getElem?_set_self (zaj hb)] at hx
      exact .inl ⟨rfl,(Option.some.inj (Option.some.inj hx)).symm⟩
     ·rw [List.getElem?_set_ne (by omega)] at hx
      exact .inr ⟨hxb,hxb,hx,rfl⟩
    ·intro i u hu
     rw [zcI _ _ _ _ (.inr hfit)] at hu
     have hC:=zcI C.toList xs (r2.sh+o) (r2.sh+i) (by simpa using hsz2)
     simp only [Nat.add_zero] at q2
     rw [← q2] at hC
     simp only [Array.getElem?_toList] at hC
     rw [hC]
     by_cases h1:i<o
     ·rw [if_pos h1] at hu
      rw [if_pos (by omega)]
      exact g4 i u hu
     ·rw [if_neg h1] at hu
      rw [if_neg (by omega)]
      by_cases h2:i<o+xs.length
      ·rw [if_pos h2] at hu
       rw [if_pos (by omega)]
       obtain ⟨u',q2,q3⟩:=hvs.get _ u hu
       refine ⟨hone u (List.mem_of_getElem? hu),u',?_,q3⟩
       rw [show r2.sh+i-(r2.sh+o)=i-o by omega];simpa using q2
      ·rw [if_neg h2] at hu
       rw [if_neg (by omega)]
       exact g4 i u hu
   ·obtain ⟨n,rfl⟩:∃ n',n=n'+1:=⟨n-1,by omega⟩
    have hzc:=zhk hz (n+1)
    rw [← hxs] at hzc
    unfold Builtin.clear_
    simp only [List.getElem?_toArray,List.getElem?_cons_zero,Sem.run_bind,hu,hd,Result.andThen_ok,hzr,Sem.run_pure,hzc,hy2,q3,pure_bind]
 ·exact h.elim
def plainV:Value→Bool
 | .agg ⟨l⟩=>l.all Abs.scalar
 | v=>Abs.scalar v
theorem zmW {v v':Value} (h:plainV v=true) (hv:VR ρ v v'):v'=v:=by
 have hs:∀ {l l':List Value},l.all Abs.scalar=true→VRs ρ l l'→l'=l:=by
  intro l
  induction l with
  | nil=>intro l' _ h;cases h;rfl
  | cons x l ih=>
   intro l' ha h
   cases h with
   | cons _ x' _ l2 h1 h2=>
    rw [List.all_cons,Bool.and_eq_true] at ha
    rw [VR.scalar_inv ha.1 h1,ih ha.2 h2]
 unfold plainV at h
 split at h
 ·obtain ⟨l',rfl,h2⟩:=hv.agg_inv
  rw [hs h h2]
 ·exact VR.scalar_inv h hv
def newM (H:AHeap) (K:Nat→AHeap→Prop):Prop:=K H.length (H++[some (.map #[] 0)])
def mupK (P:Program) (kt:TypeId) (H:AHeap) (m k v:Value) (K:AHeap→Prop):Prop:=
 ∃ b es cl,m=.map (some b)∧H[b]?=some (some (.map es cl))∧WideMaps.KeyLaw P kt∧plainV k=true∧(∃ l,keyOf P kt k=some l)∧(∀ e∈es.toList,∃ l,keyOf P kt e.key=some l)∧Abs.scalar v=true∧
  ((∀ e∈es.toList,e.key≠k)→K (H.set b (some (.map (es.push { key:=k,val:=v,born:=cl }) (cl+1)))))∧
  ∀ (j:Nat) (e:MapEntry),es[j]?=some e→e.key=k→K (H.set b (some (.map (es.modify j fun e'=>{ e' with key:=k,val:=v }) cl)))
def lupK (P:Program) (kt:TypeId) (H:AHeap) (m k z:Value) (ok:Bool) (K:Value→Prop):Prop:=
 ∃ b es cl,m=.map (some b)∧H[b]?=some (some (.map es cl))∧WideMaps.KeyLaw P kt∧plainV k=true∧(∃ l,keyOf P kt k=some l)∧(∀ e∈es.toList,∃ l,keyOf P kt e.key=some l)∧Abs.scalar z=true∧
  ((∀ e∈es.toList,e.key≠k)→K (if ok then .tuple ⟨[z,.bool false]⟩ else z))∧
  ∀ (j:Nat) (e:MapEntry),es[j]?=some e→e.key=k→Abs.scalar e.val=true∧K (if ok then .tuple ⟨[e.val,.bool true]⟩ else e.val)
def mlenK (H:AHeap) (m:Value) (K:Nat→Prop):Prop:=
 match m with
 | .map none=>K 0
 | .map (some b)=>∃ es cl,H[b]?=some (some (.map es cl))∧K es.size
 | _=>False
theorem VR.map_inv {b:Nat} {v':Value} (h:VR ρ (.map (some b)) v'):∃ r,ρ b=some r∧v'=.map (some r.blk):=by
 cases h with
 | scalar _ h=>simp [Abs.scalar] at h
 | map _ r h=>exact ⟨r,h,rfl⟩
theorem Rel.setMap (R:Rel T G w0 ρ H w) {b:Nat} {es es':Array MapEntry} {cl cl':Nat} {r:Blk} (hb:H[b]?=some (some (.map es cl))) (hr:ρ b=some r) {w':World}
 (hw':w'={ w with heap:=w.heap.setIfInBounds r.blk (.map es' cl') }):Rel T G w0 ρ (H.set b (some (.map es' cl'))) w':=by
 subst hw'
 obtain ⟨r1,g1,g2,g3⟩:=R.map b es cl hb
 rw [hr] at g1
 obtain rfl:=Option.some.inj g1
 have hlt:=(R.dom _ _ hr).2
 have hbl:=zaj hb
 have other:∀ (k:Nat),k≠r.blk→({ w with heap:=w.heap.setIfInBounds r.blk (.map es' cl') }:World).heap[k]?=w.heap[k]?:=fun k hk=>by
  show (w.heap.setIfInBounds _ _)[k]?=_
  rw [Array.getElem?_setIfInBounds_ne (by omega)]
 have apart:∀ {x:Nat} {o:AObj} {s:Blk},x≠b→H[x]?=some (some o)→ρ x=some s→s.blk≠r.blk:=fun hx ho hs he=>
  hx (R.inj b _ (.map es cl) _ r _ hb ho (by simp) hr hs he.symm).symm
 have back:∀ {x:Nat} {o:AObj},(H.set b (some (.map es' cl')))[x]?=some (some o)→(x=b∧o=.map es' cl')∨(x≠b∧H[x]?=some (some o)):=by
  intro x o h
  by_cases hx:x=b
  ·subst hx
   rw [List.getElem?_set_self hbl] at h
   exact .inl ⟨rfl,(Option.some.inj (Option.some.inj h)).symm⟩
  ·rw [List.getElem?_set_ne (by omega)] at h
   exact .inr ⟨hx,h⟩
 refine ⟨R.below.trans ⟨rfl,rfl,rfl,by simp,fun k hk=>other k (by omega)⟩,fun x s h=>by simpa using R.dom x s h,R.glob,?_,?_,?_⟩
 ·intro x cs e own hx
  rcases back hx with ⟨_,h⟩|⟨h1,h2⟩
  ·cases h
  ·obtain ⟨s,C,e',fr,k1,k2,k3⟩:=R.row x cs e own h2
   exact ⟨s,C,e',fr,k1,by rw [other _ (apart h1 h2 k1)];exact k2,k3⟩
 ·intro x y o o' s s' hx hy ho hs hs' heq
  rcases back hx with ⟨rfl,h1⟩|⟨h1,h2⟩ <;> rcases back hy with ⟨rfl,h3⟩|⟨h3,h4⟩
  ·rfl
  ·rw [hr] at hs
   obtain rfl:=Option.some.inj hs
   exact absurd heq.symm (apart h3 h4 hs')
  ·rw [hr] at hs'
   obtain rfl:=Option.some.inj hs'
   exact absurd heq (apart h1 h2 hs)
  ·exact R.inj x y o o' s s' h2 h4 ho hs hs' heq
 ·intro x es2 cl2 hx
  rcases back hx with ⟨rfl,h⟩|⟨h1,h2⟩
  ·cases h
   refine ⟨r,hr,?_,g3⟩
   show (w.heap.setIfInBounds _ _)[r.blk]?=_
   simp [hlt]
  ·obtain ⟨s,k1,k2,k3⟩:=R.map x es2 cl2 h2
   exact ⟨s,k1,by rw [other _ (apart h1 h2 k1)];exact k2,k3⟩
theorem Rel.newMap (R:Rel T G w0 ρ H w):Rel T G w0 (ρ.upd H.length ⟨w.heap.size,0,0,0⟩) (H++[some (.map #[] 0)]) { w with heap:=w.heap.push (.map #[] 0) }:=by
 have hle:=R.le_upd ⟨w.heap.size,0,0,0⟩
 have old:∀ (k:Nat),k<w.heap.size→({ w with heap:=w.heap.push (.map #[] 0) }:World).heap[k]?=w.heap[k]?:=fun k hk=>by
  show (w.heap.push _)[k]?=_
  rw [Array.getElem?_push,if_neg (by omega)]
 have back:∀ {x:Nat} {o:AObj},(H++[some (.map #[] 0)])[x]?=some (some o)→(x=H.length∧o=.map #[] 0)∨(x≠H.length∧H[x]?=some (some o)):=by
  intro x o h
  have hl:=zaj h
  simp at hl
  by_cases hx:x=H.length
  ·subst hx;simp at h;exact .inl ⟨rfl,h.symm⟩
  ·rw [List.getElem?_append_left (by omega)] at h
   exact .inr ⟨hx,h⟩
 have up:∀ {x:Nat} {s:Blk},x≠H.length→ρ.upd H.length ⟨w.heap.size,0,0,0⟩ x=some s→ρ x=some s:=fun hx h=>by rwa [Loc.upd_ne _ _ hx] at h
 refine ⟨R.below.trans ⟨rfl,rfl,rfl,by simp,fun k hk=>old k (by have:=R.below.size;omega)⟩,?_,?_,?_,?_,?_⟩
 ·intro b r h
  by_cases hb:b=H.length
  ·subst hb;rw [Loc.upd_same] at h;obtain rfl:=Option.some.inj h;simp
  ·have:=R.dom b r (up hb h)
   simp;omega
 ·intro g hg
  obtain ⟨N,s,h⟩:=R.glob g hg
  exact ⟨N,s,hle _ _ h⟩
 ·intro b cs e own hb
  rcases back hb with ⟨_,h⟩|⟨h1,h2⟩
  ·cases h
  ·obtain ⟨r,C2,e3,fr,k1,k2,k3,k4,k5,k6⟩:=R.row b cs e own h2
   refine ⟨r,C2,e3,fr,hle _ _ k1,by rw [old _ (R.dom _ _ k1).2];exact k2,k3,?_,k5,k6⟩
   intro i v hv
   obtain ⟨g1,v',g2,g3⟩:=k4 i v hv
   exact ⟨g1,v',g2,g3.mono hle⟩
 ·intro x y o o' s s' hx hy ho hs hs' heq
  rcases back hx with ⟨rfl,h1⟩|⟨h1,h2⟩ <;> rcases back hy with ⟨e2,h3⟩|⟨h3,h4⟩
  ·exact e2.symm
  ·rw [Loc.upd_same] at hs
   obtain rfl:=Option.some.inj hs
   have:=(R.dom _ _ (up h3 hs')).2
   simp at heq;omega
  ·subst e2
   rw [Loc.upd_same] at hs'
   obtain rfl:=Option.some.inj hs'
   have:=(R.dom _ _ (up h1 hs)).2
   simp at heq;omega
  ·exact R.inj x y o o' s s' h2 h4 ho (up h1 hs) (up h3 hs') heq
 ·intro x es cl hx
  rcases back hx with ⟨rfl,h⟩|⟨h1,h2⟩
  ·cases h
   refine ⟨_,Loc.upd_same _ _ _,?_,R.below.size⟩
   show (w.heap.push _)[w.heap.size]?=_
   simp
  ·obtain ⟨s,k1,k2,k3⟩:=R.map x es cl h2
   exact ⟨s,hle _ _ k1,by rw [old _ (R.dom _ _ k1).2];exact k2,k3⟩
theorem ze0 (hT:TT.ok P T) (R:Rel T G w0 ρ H w) {t kt et:TypeId} {i:TI} (hi:T t=some i) (hd:i.desc=.map kt et) {m k v m' k' v':Value} (hm:VR ρ m m') (hk:VR ρ k k') (hv:VR ρ v v') {K:AHeap→Prop}
 (h:mupK P kt H m k v K):∃ H' w',K H'∧Rel T G w0 ρ H' w'∧(Instr.mapUpdate t m' k' v').run P w=.ok () w':=by
 obtain ⟨b,es,cl,rfl,hb,L,hp,⟨l,hl⟩,hes,hs,h1,h2⟩:=h
 obtain ⟨r,hr,rfl⟩:=hm.map_inv
 obtain rfl:=zmW hp hk
 obtain rfl:=VR.scalar_inv hs hv
 obtain ⟨r1,g1,g2,g3⟩:=R.map b es cl hb
 rw [hr] at g1
 obtain rfl:=Option.some.inj g1
 have hu:(underlying t).run P w=.ok (.map kt et) w:=by rw [zal hT hi,hd]
 rcases L.find w hl es.toList hes with ⟨f1,f2⟩|⟨j,e0,f1,f2,f3⟩
 ·refine ⟨_,_,h1 f2,R.setMap hb hr rfl,?_⟩
  simp [Instr.mapUpdate,hu,MapKept.run_getObj_map g2,L.check w false hl,f1,MapKept.run_setObj_map _ g2,Result.andThen]
 ·have hj:es[j]?=some e0:=by simpa using f2
  refine ⟨_,_,h2 j e0 hj f3,R.setMap hb hr rfl,?_⟩
  simp [Instr.mapUpdate,hu,MapKept.run_getObj_map g2,L.check w false hl,f1,hj,f3,L.stays w hl,MapKept.run_setObj_map _ g2,Result.andThen]
theorem znF (hT:TT.ok P T) (R:Rel T G w0 ρ H w) {t kt et:TypeId} {i ti:TI} (hi:T t=some i) (hd:i.desc=.map kt et) (he:T et=some ti) {m k m' k':Value} (hm:VR ρ m m') (hk:VR ρ k k') {ok:Bool} {K:Value→Prop}
 (h:lupK P kt H m k ti.zero ok K):∃ v,K v∧VR ρ v v∧(Instr.lookup t m' k' ok).run P w=.ok v w:=by
 obtain ⟨b,es,cl,rfl,hb,L,hp,⟨l,hl⟩,hes,hs,h1,h2⟩:=h
 obtain ⟨r,hr,rfl⟩:=hm.map_inv
 obtain rfl:=zmW hp hk
 obtain ⟨r1,g1,g2,g3⟩:=R.map b es cl hb
 rw [hr] at g1
 obtain rfl:=Option.some.inj g1
 have hu:(underlying t).run P w=.ok (.map kt et) w:=by rw [zal hT hi,hd]
 have tup:∀ (x:Value) (q:Bool),Abs.scalar x=true→VR ρ (if ok then .tuple ⟨[x,.bool q]⟩ else x) (if ok then .tuple ⟨[x,.bool q]⟩ else x):=by
  intro x q hx
  cases ok with
  | true=>exact .tuple _ _ (.cons _ _ _ _ (.scalar _ hx) (.cons _ _ _ _ (.scalar _ rfl) .nil))
  | false=>exact .scalar _ hx
 rcases L.find w hl es.toList hes with ⟨f1,f2⟩|⟨j,e0,f1,f2,f3⟩
 ·refine ⟨_,h1 f2,tup _ _ hs,?_⟩
  simp [Instr.lookup,hu,MapKept.run_getObj_map g2,L.check w es.isEmpty hl,f1,zbv hT he,Result.andThen]
 ·have hj:es[j]?=some e0:=by simpa using f2
  obtain ⟨h3,h4⟩:=h2 j e0 hj f3
  refine ⟨_,h4,tup _ _ h3,?_⟩
  simp [Instr.lookup,hu,MapKept.run_getObj_map g2,L.check w es.isEmpty hl,f1,Result.andThen]
end
end Go.Abs
