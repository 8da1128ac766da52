/- Short forms that the printed blocks use: places in a code as numbers. -/
import Derived.Test.YtngacbdogjmpaaaGreatX36T
set_option linter.unusedVariables false
namespace Go.Abs
def pthN:Nat→Nat→List Dir→List Dir
  | 0,_,l=>l
  | k+1,m,l=>cond (Nat.ble m 1) l (pthN k (Nat.div m 2) (cond (Nat.beq (Nat.mod m 2) 0) .l .r::l))
abbrev pth (m:Nat):=pthN 400 m []
abbrev M (r:EP):=mkQ r (fun _ _ _=>False) r
abbrev V:=Value
abbrev W:=AHeap
abbrev J:Kd:=.i .i64
abbrev I (n:Int):Value:=.int .i64 n
abbrev li:=ldI .i64
abbrev Y (k:Sk):=NTy k Pr
@[reducible] def qFC:(q:List C1)→{β:Type}→(List Value→β)→CTy q β
  | [],_,F=>F []
  | .i::q,_,F=>fun n=>qFC q fun l=>F (.int .i64 n::l)
  | .b::q,_,F=>fun n=>qFC q fun l=>F (.bool n::l)
  | .s::q,_,F=>fun n=>qFC q fun l=>F (.string n::l)
  | .v::q,_,F=>fun n=>qFC q fun l=>F (n::l)
@[reducible] def qF:(ks:Sk)→{α:Type}→((Nat→Value)→α)→(Nat→Value)→NTy ks α
  | [],_,F,u=>F u
  | (t,.i k)::ks,_,F,u=>fun n=>qF ks F (upd u t (.int k n))
  | (t,.b)::ks,_,F,u=>fun n=>qF ks F (upd u t (.bool n))
  | (t,.s)::ks,_,F,u=>fun n=>qF ks F (upd u t (.string n))
  | (t,.v)::ks,_,F,u=>fun n=>qF ks F (upd u t n)
  | (t,.x)::ks,_,F,u=>fun n=>qF ks F (upd u t (.pointer (some ⟨n,0,none⟩)))
  | (t,.p)::ks,_,F,u=>fun b o=>qF ks F (upd u t (.pointer (some ⟨b,o,none⟩)))
  | (t,.g q)::ks,_,F,u=>qFC q fun l=>qF ks F (upd u t (.agg ⟨l⟩))
theorem qFC_E:∀ (q:List C1) {β:Type} {F:List Value→β} {N:CTy q β} {G:List Value→β→Prop},qFC q F=N→(∀ l,G l (F l))→qC q G N
  | [],_,F,N,G,h,k=>by subst h;exact k []
  | .i::q,_,F,N,G,h,k=>fun n=>qFC_E q (congrFun h n) fun l=>k _
  | .b::q,_,F,N,G,h,k=>fun n=>qFC_E q (congrFun h n) fun l=>k _
  | .s::q,_,F,N,G,h,k=>fun n=>qFC_E q (congrFun h n) fun l=>k _
  | .v::q,_,F,N,G,h,k=>fun n=>qFC_E q (congrFun h n) fun l=>k _
theorem qF_E:∀ (ks:Sk) {α:Type} {F:(Nat→Value)→α} {N:NTy ks α} {G:(Nat→Value)→α→Prop} (u:Nat→Value),qF ks F u=N→(∀ u,G u (F u))→qE ks u G N
  | [],_,F,N,G,u,h,k=>by subst h;exact k u
  | (t,.i _)::ks,_,F,N,G,u,h,k=>fun n=>qF_E ks _ (congrFun h n) k
  | (t,.b)::ks,_,F,N,G,u,h,k=>fun n=>qF_E ks _ (congrFun h n) k
  | (t,.s)::ks,_,F,N,G,u,h,k=>fun n=>qF_E ks _ (congrFun h n) k
  | (t,.v)::ks,_,F,N,G,u,h,k=>fun n=>qF_E ks _ (congrFun h n) k
  | (t,.x)::ks,_,F,N,G,u,h,k=>fun n=>qF_E ks _ (congrFun h n) k
  | (t,.p)::ks,_,F,N,G,u,h,k=>fun b o=>qF_E ks _ (congrFun (congrFun h b) o) k
  | (t,.g q)::ks,_,F,N,G,u,h,k=>qFC_E q h fun l=>qF_E ks _ rfl k
end Go.Abs
namespace Go.Abs
def tf (n:Nat):List (Nat × Bool):=(List.range n).map fun i=>(i,false)
@[reducible] def allC:(q:List C1)→{γ:Type}→((γ→Prop)→Prop)→(TC q γ→Prop)→Prop
  | [],_,A,F=>A F
  | .i::q,_,A,F=>∀ n:Int,allC q A fun t=>F (n,t)
  | .b::q,_,A,F=>∀ n:Bool,allC q A fun t=>F (n,t)
  | .s::q,_,A,F=>∀ n:ByteArray,allC q A fun t=>F (n,t)
  | .v::q,_,A,F=>∀ n:Value,allC q A fun t=>F (n,t)
@[reducible] def allT:(ks:Sk)→(Tu ks→Prop)→Prop
  | [],F=>F ()
  | (_,.i _)::ks,F=>∀ n:Int,allT ks fun t=>F (n,t)
  | (_,.b)::ks,F=>∀ n:Bool,allT ks fun t=>F (n,t)
  | (_,.s)::ks,F=>∀ n:ByteArray,allT ks fun t=>F (n,t)
  | (_,.v)::ks,F=>∀ n:Value,allT ks fun t=>F (n,t)
  | (_,.x)::ks,F=>∀ n:Nat,allT ks fun t=>F (n,t)
  | (_,.p)::ks,F=>∀ b o:Nat,allT ks fun t=>F (b,o,t)
  | (_,.g q)::ks,F=>allC q (allT ks) F
theorem allC_E:∀ (q:List C1) {γ:Type} {A:(γ→Prop)→Prop} {F:TC q γ→Prop},(∀ F,A F→∀ t,F t)→allC q A F→∀ t,F t
  | [],_,A,F,hA,h,t=>hA F h t
  | .i::q,_,A,F,hA,h,t=>allC_E q (F:=fun s=>F (t.1,s)) hA (h t.1) t.2
  | .b::q,_,A,F,hA,h,t=>allC_E q (F:=fun s=>F (t.1,s)) hA (h t.1) t.2
  | .s::q,_,A,F,hA,h,t=>allC_E q (F:=fun s=>F (t.1,s)) hA (h t.1) t.2
  | .v::q,_,A,F,hA,h,t=>allC_E q (F:=fun s=>F (t.1,s)) hA (h t.1) t.2
theorem allT_E:∀ (ks:Sk) {F:Tu ks→Prop},allT ks F→∀ t,F t
  | [],F,h,()=>h
  | (_,.i _)::ks,F,h,t=>allT_E ks (F:=fun s=>F (t.1,s)) (h t.1) t.2
  | (_,.b)::ks,F,h,t=>allT_E ks (F:=fun s=>F (t.1,s)) (h t.1) t.2
  | (_,.s)::ks,F,h,t=>allT_E ks (F:=fun s=>F (t.1,s)) (h t.1) t.2
  | (_,.v)::ks,F,h,t=>allT_E ks (F:=fun s=>F (t.1,s)) (h t.1) t.2
  | (_,.x)::ks,F,h,t=>allT_E ks (F:=fun s=>F (t.1,s)) (h t.1) t.2
  | (_,.p)::ks,F,h,t=>allT_E ks (F:=fun s=>F (t.1,t.2.1,s)) (h t.1 t.2.1) t.2.2
  | (_,.g q)::ks,F,h,t=>allC_E q (fun F hF=>allT_E ks hF) h t
def LP (ks:Sk) (B:NTy ks Pr→NTy ks Pr):NTy ks Pr:=kuT ks fun t H=>∃ (I:NTy ks Pr) (μ:NTy ks (AHeap→Nat)),apT ks I t H∧allT ks fun t'=>∀ G,apT ks I t' G→apT ks (B (kuT ks fun t'' G'=>apT ks I t'' G'∧apT ks μ t'' G'<apT ks μ t' G)) t' G
theorem LP_Q {ks:Sk} {L:NTy ks Pr} {B:NTy ks Pr→NTy ks Pr} (h:L=LP ks B):LQ ks L B:=by
  intro t H hL
  subst h
  unfold LP at hL
  rw [zhm] at hL
  obtain ⟨I,μ,h0,hI⟩:=hL
  exact ⟨apT ks I,apT ks μ,h0,fun t' H' hi=>allT_E ks hI t' H' hi⟩
end Go.Abs
namespace Go.Proofs
open Go.Abs
abbrev A:=AC Tryz.prog T0
abbrev Z (f:Func) (n:Nat) (ks:Sk) (N:NTy ks Pr) (P:PT):=∀ env H,En n ks N env H→AW Tryz.prog T0 (bodyOf f) env H (M (retE T0 n f P))
section
variable {Rt K:EP} {X:Nat→EP} {n id:Nat} {ks k':Sk} {N:NTy ks Pr} {o:List Oper} {c:Code}
theorem b (K:EP) (h:(qF ks fun u (H:AHeap)=>aOps Tryz.prog T0 o o (mkEnv u n 0) H K)=fun _=>N:=by kernel_rfl):∀ env H,En n ks N env H→AW Tryz.prog T0 (.region id ⟨o⟩ false) env H (mkQ K X Rt):=
  rB zA7 fun u=>qF_E ks u (congrFun h u) fun _ _=>rfl
theorem a (N':NTy k' Pr) (h:(qF ks fun u (H:AHeap)=>aOps Tryz.prog T0 o o (mkEnv u n 0) H (En n k' N'))=fun _=>N:=by kernel_rfl):∀ env H,En n ks N env H→AW Tryz.prog T0 (.region id ⟨o⟩ false) env H (mkQ (En n k' N') X Rt):=b _ h
theorem s (N':NTy k' Pr) (p:∀ env H,En n k' N' env H→AW Tryz.prog T0 c env H (mkQ K X Rt)) (h:(qF ks fun u (H:AHeap)=>aOps Tryz.prog T0 o o (mkEnv u n 0) H (En n k' N'))=fun _=>N:=by kernel_rfl):∀ env H,En n ks N env H→AW Tryz.prog T0 (.seq (.region id ⟨o⟩ false) c) env H (mkQ K X Rt):=zBW (b _ h) p
theorem e (_:Unit) (h:(qF ks fun u (H:AHeap)=>aOps Tryz.prog T0 o o (mkEnv u n 0) H Rt)=fun _=>N:=by kernel_rfl):∀ env H,En n ks N env H→AW Tryz.prog T0 (.seq (.region id ⟨o⟩ false) .ret) env H (mkQ K X Rt):=zBW (b _ h) zBV
theorem d (τ:List (Nat × Bool)) (K:EP) (hc:drawOK T0 o τ=true:=by kernel_rfl) (h:(qF ks fun u (H:AHeap)=>aOpsD Tryz.prog T0 o (opsOf o τ) (mkEnv u n 0) H K)=fun _=>N:=by kernel_rfl):∀ env H,En n ks N env H→AW Tryz.prog T0 (.region id ⟨o⟩ true) env H (mkQ K X Rt):=
  rD zA7 mixed τ hc fun u=>qF_E ks u (congrFun h u) fun _ _=>rfl
theorem t (τ:Sch) (K:EP) (hc:drawOKT T0 o τ=true:=by kernel_rfl) (h:(qF ks fun u (H:AHeap)=>aOpsT Tryz.prog T0 o τ (mkEnv u n 0) H K)=fun _=>N:=by kernel_rfl):∀ env H,En n ks N env H→AW Tryz.prog T0 (.region id ⟨o⟩ true) env H (mkQ K X Rt):=
  rT zA7 mixed τ hc fun u=>qF_E ks u (congrFun h u) fun _ _=>rfl
theorem l {L:NTy ks Pr} (B:NTy ks Pr→NTy ks Pr) (p:∀ N,∀ env H,En n ks (B N) env H→AW Tryz.prog T0 c env H (mkQ (En n ks N) X Rt)) (h:L=LP ks B:=by kernel_rfl):∀ env H,En n ks L env H→AW Tryz.prog T0 (.loop c) env H (mkQ K X Rt):=rL (LP_Q h) p
theorem fn {f : FuncId} {g : Func} {vs : List Value} {H : AHeap} {P : PT} {Q : Prop} (hf : Tryz.prog.funcs[f]? = some g) (m : ∀ env H, En n ks N env H → AW Tryz.prog T0 (bodyOf g) env H (M (retE T0 n g P))) (h : Q) (hb : g.body = some (bodyOf g) := by kernel_rfl) (hn : (g.name == "runtime.NumGoroutine") = false := by kernel_rfl)
    (hx:Q=En n ks N (vs++List.replicate (g.ntmps-vs.length) undef) H:=by kernel_rfl):AC Tryz.prog T0 f vs H P:=r_fn zA7 hf hb hn m (hx.mp h)
end
end Go.Proofs
