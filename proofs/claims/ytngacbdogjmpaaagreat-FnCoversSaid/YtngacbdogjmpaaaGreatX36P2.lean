/- The abstract heap: calls, code, regions that draw. -/
import Derived.Test.YtngacbdogjmpaaaGreatX36P1
import Derived.Laws.Panics
import Derived.Laws.BytesString
import Derived.Tactics
import Derived.KernelRfl
set_option linter.unusedVariables false
set_option linter.unusedSimpArgs false
/- Calls, regions and code: the triples over the abstract heap, and their rules. -/
namespace Go.Abs
open Go.RowKit

def AC (P:Program) (T:TT) (f:FuncId) (args:List Value) (H:AHeap) (Post:Value→AHeap→Prop):Prop:=
 (∃ fn, P.funcs[f]? = some fn ∧ (fn.name == "runtime.NumGoroutine") = false ∧ fn.body.isNone = false) ∧
 ∀ (w0 w:World) (ρ:Loc) (args':List Value),Rel T P.globals.size w0 ρ H w→VRs ρ args args'→
  Calls P f ⟨args'⟩ w fun e w'=>∃ v v' ρ' H',e=.returned v'∧Post v H'∧ρ.le ρ'∧VR ρ' v v'∧Rel T P.globals.size w0 ρ' H' w'
theorem AC.mono {P:Program} {T:TT} {f:FuncId} {args:List Value} {H:AHeap} {Post Post':Value→AHeap→Prop} (h:AC P T f args H Post) (hp:∀ v H',Post v H'→Post' v H'):AC P T f args H Post':=
 ⟨h.1,fun w0 w ρ args' R hv=>(h.2 w0 w ρ args' R hv).mono fun e w' ⟨v,v',ρ',H',h1,h2,h3⟩=>⟨v,v',ρ',H',h1,hp _ _ h2,h3⟩⟩
def bltK (T:TT) (b:Builtin) (args:List Value) (K:Value→Prop):Prop:=
 match b,args with
 | .len,[v]=>lenK v fun n=>K (.int .i64 n)
 | .min,[.int k x,.int k' y]=>pif (decide (k=k')) (K (.int k (if y<x then y else x))) False
 | .max,[.int k x,.int k' y]=>pif (decide (k=k')) (K (.int k (if y>x then y else x))) False
 | _,_=>False
def callV (P:Program) (T:TT) (f:Value) (args:List Value) (H:AHeap) (K:Value→AHeap→Prop):Prop:=
 match f with
 | .func (.func g) ⟨first⟩ ⟨captured⟩=>AC P T g (first++args++captured) H K
 | _=>False
def aOp (P:Program) (T:TT) (o:Oper) (ev:Operand→Value) (H:AHeap) (K:Value→AHeap→Prop):Prop:=
 match o.op with
 | .call c=>match c.callee with
  | .builtin .append=>match c.argTypes.toList,c.args.toList with
   | [t,t2],[s,x]=>match T t,T t2 with
    | some ⟨.slice e,_,_,_⟩,some ⟨.slice _,_,_,_⟩=>apK T e H (ev s) (ev x) K
    | some ⟨.slice e,_,_,_⟩,some ⟨.int _,_,_,_⟩=>apN T e H (ev s) (ev x) K
    | _,_=>False
   | _,_=>False
  | .builtin .len=>match c.argTypes.toList,c.args.toList with
   | [t],[x]=>match T t with
    | some ⟨.slice _,_,_,_⟩=>lenK (ev x) fun n=>K (.int .i64 n) H
    | some ⟨.string,_,_,_⟩=>asS (ev x) fun s=>K (.int .i64 s.size) H
    | some ⟨.array n _,_,_,_⟩=>K (.int .i64 n) H
    | some ⟨.map _ _,_,_,_⟩=>mlenK H (ev x) fun n=>K (.int .i64 n) H
    | _=>False
   | _,_=>False
  | .builtin .copy=>match c.argTypes.toList,c.args.toList with
   | [t,t2],[d,s]=>match T t with
    | some ⟨.slice e,_,_,_⟩=>cpK T e H (ev d) (ev s) fun n G=>K (.int .i64 n) G
    | _=>False
   | _,_=>False
  | .builtin .cap=>match c.argTypes.toList,c.args.toList with
   | [t],[x]=>match T t with
    | some ⟨.slice _,_,_,_⟩=>capK (ev x) fun n=>K (.int .i64 n) H
    | _=>False
   | _,_=>False
  | .builtin .clear=>match c.argTypes.toList,c.args.toList with
   | [t],[x]=>match T t with
    | some ⟨.slice e,_,_,_⟩=>clrK T e H (ev x) fun G=>K (.tuple ⟨[]⟩) G
    | _=>False
   | _,_=>False
  | .builtin b=>bltK T b (c.args.toList.map ev) fun v=>K v H
  | .value f=>callV P T (ev f) (c.args.toList.map ev) H fun v H'=>match T o.type with
   | some ti=>shapeR ti.zero v fun v=>K v H'
   | none=>False
  | _=>False
 | .alloc _|.box _ _|.buildSlice _ _ _|.makeSlice _ _ _|.store _ _ _=>aEf T o.op ev H K
 | .makeMap _ none=>newM H fun b G=>K (.map (some b)) G
 | .makeMap _ (some _)=>False
 | .mapUpdate t m k x=>match T t with
  | some ⟨.map kt _,_,_,_⟩=>mupK P kt H (ev m) (ev k) (ev x) fun G=>K undef G
  | _=>False
 | .insert t m k x=>match T t with
  | some ⟨.map kt _,_,_,_⟩=>mupK P kt H (ev m) (ev k) (ev x) fun G=>K undef G
  | _=>False
 | .convert s d x=>match isBytes T s with
  | true=>match isString T d with
   | true=>bytK H (ev x) fun s=>K (.string s) H
   | false=>False
  | false=>aRd T (.convert s d x) ev H fun v=>K v H
 | .lookup t m k ok=>match T t with
  | some ⟨.map kt et,_,_,_⟩=>match T et with
   | some te=>lupK P kt H (ev m) (ev k) te.zero ok fun v=>match T o.type with
    | some ti=>shapeR ti.zero v fun v=>K v H
    | none=>False
   | none=>False
  | _=>False
 | op=>aRd T op ev H fun v=>K v H
def guardK (ops:List Oper) (o:Oper) (env:Env) (K:Env→Bool→Prop):Prop:=
 match o.guard with
 | none=>K env true
 | some (j,want)=>
  match (ops[j]?).bind (·.dst) with
  | none=>K env false
  | some t=>match env[t]? with
   | some (.bool b)=>pif b (K (env.set t (.bool true)) (true==want)) (K (env.set t (.bool false)) (false==want))
   | some (.tuple ⟨[]⟩)=>K env false
   | _=>False
def aOps (P:Program) (T:TT) (all:List Oper):List Oper→Env→AHeap→(Env→AHeap→Prop)→Prop
 | [],env,H,K=>K env H
 | o::rest,env,H,K=>pif (o.op.operands.toList.all (operandOK P.globals.size)) (guardK all o env fun env b=>
  pif b (aOp P T o (aev env) H fun v H'=>aOps P T all rest (Env.put env o.dst v) H' K) (aOps P T all rest (Env.put env o.dst undef) H K)) False
section
variable {P:Program} {T:TT} {w0 w:World} {ρ:Loc} {H:AHeap} {env:Env} {a:Act} {o:Oper}

theorem zpl {k k':IntKind} {x y:Int} {l:List Value} (h:VRs ρ [.int k x,.int k' y] l):l=[.int k x,.int k' y]:=by
 cases h with
 | cons _ _ _ _ h t=>cases t with
  | cons _ _ _ _ h2 t=>cases t with
   | nil=>rw [h.int_inv,h2.int_inv]
theorem zeB (hT:TT.ok P T) (R:Rel T P.globals.size w0 ρ H w) (hv:∀ x∈o.op.operands,VR ρ (aev env x) (a.eval x)) {K:Value→AHeap→Prop} (h:aOp P T o (aev env) H K)
 {next:Act→World→Prop} {Q:Exit→Act→World→Prop}
 (hn:∀ v v' ρ' H' w',K v H'→ρ.le ρ'→VR ρ' v v'→Rel T P.globals.size w0 ρ' H' w'→next (a.put o.dst v') w'):o.wp P a w next Q:=by
 have turns:∀ {s:Sem Value} {K:Value→AHeap→Prop},Turns P T P.globals.size w0 ρ w s K→execOp a.eval o=(do pure (.value (← s)))→(∀ v v' ρ' H' w',K v H'→ρ.le ρ'→VR ρ' v v'→Rel T P.globals.size w0 ρ' H' w'→next (a.put o.dst v') w')→o.wp P a w next Q:=by
  intro s K ht he hn
  obtain ⟨v,v',ρ',H',w',h1,h2,h3,h4,h5⟩:=ht
  unfold Oper.wp
  rw [he]
  simp only [Sem.run_bind,h5,Result.andThen_ok,Sem.run_pure,Oper.upon]
  exact hn v v' ρ' H' w' h1 h2 h3 h4
 have gives:(∃ v v',K v H∧VR ρ v v'∧(execOp a.eval o).run P w=.ok (.value v') w)→o.wp P a w next Q:=by
  rintro ⟨v,v',h1,h2,h3⟩
  unfold Oper.wp
  rw [h3]
  exact hn v v' ρ H w h1 (Loc.le_refl _) h2 R
 obtain ⟨dst,op,type,pos,after,guard⟩:=o
 cases op
 case call c=>
  simp only [aOp] at h
  have hargs:VRs ρ (c.args.toList.map (aev env)) (c.args.toList.map a.eval):=VRs.map_ev _ _ (fun x hx=>hv x (by simp [Op.operands,Call.operands];exact .inr (by simpa using hx)))
  have hmap:c.args.map a.eval=⟨c.args.toList.map a.eval⟩:=by apply Array.ext';simp
  split at h
  ·rename_i hcal
   split at h
   ·rename_i t t2 s x ht hx
    split at h
    ·rename_i e _ _ _ e2 _ _ _ hi hi2
     have he:∃ ti,T e=some ti:=by
      unfold apK at h
      split at h
      ·exact ⟨_,by assumption⟩
      ·exact h.elim
     obtain ⟨ti,he⟩:=he
     have hxs:x∈c.args∧s∈c.args:=by
      constructor <;> (rw [← Array.mem_toList_iff,hx];simp)
     refine turns (zmR hT R hi rfl hi2 (by intro k;simp) he type (hv s (by simp [Op.operands,Call.operands];exact .inr hxs.2)) (hv x (by simp [Op.operands,Call.operands];exact .inr hxs.1)) h) ?_ hn
     have e1:c.argTypes=#[t,t2]:=by apply Array.ext';simpa using ht
     have e2:c.args.map a.eval=#[a.eval s,a.eval x]:=by rw [hmap,hx];rfl
     simp only [execOp,resolve,hcal,e1,e2,pure_bind,invoke,builtin]
    ·rename_i e _ _ _ k2 _ _ _ hi hi2
     have hxs:x∈c.args∧s∈c.args:=by
      constructor <;> (rw [← Array.mem_toList_iff,hx];simp)
     refine turns (zll hT R hi rfl hi2 rfl type (hv s (by simp [Op.operands,Call.operands];exact .inr hxs.2)) (hv x (by simp [Op.operands,Call.operands];exact .inr hxs.1)) h) ?_ hn
     have e1:c.argTypes=#[t,t2]:=by apply Array.ext';simpa using ht
     have e2:c.args.map a.eval=#[a.eval s,a.eval x]:=by rw [hmap,hx];rfl
     simp only [execOp,resolve,hcal,e1,e2,pure_bind,invoke,builtin]
    ·exact h.elim
   ·exact h.elim
  ·rename_i hcal
   split at h
   ·rename_i t x ht hx
    have hxs:x∈c.args:=by rw [← Array.mem_toList_iff,hx];simp
    have hvx:=hv x (by simp [Op.operands,Call.operands];exact .inr hxs)
    have e1:c.argTypes=#[t]:=by apply Array.ext';simpa using ht
    have e2:c.args.map a.eval=#[a.eval x]:=by rw [hmap,hx];rfl
    have ex:execOp a.eval ⟨dst,.call c,type,pos,after,guard⟩=(do pure (.value (← Builtin.len_ #[t] type #[a.eval x])):Sem Next):=by
     simp only [execOp,resolve,hcal,e1,e2,pure_bind,invoke,builtin]
    split at h
    ·rename_i hi
     have hu:=zal (w:=w) hT hi
     obtain ⟨y,n,cp,e3,h⟩:=zjj h
     rw [e3] at hvx
     have e4:∃ y' cp',a.eval x=.slice y' n cp':=by
      cases y with
      | none=>exact ⟨_,_,hvx.scalar_inv rfl⟩
      | some y=>obtain ⟨y',c',e,_⟩:=hvx.slice_inv;exact ⟨_,_,e⟩
     obtain ⟨y',cp',e4⟩:=e4
     exact gives ⟨_,_,h,.scalar _ rfl,by rw [ex];simp [Builtin.len_,hu,e4,goInt]⟩
    ·rename_i hi
     have hu:=zal (w:=w) hT hi
     obtain ⟨s,e3,h⟩:=zdA h
     rw [e3] at hvx
     exact gives ⟨_,_,h,.scalar _ rfl,by rw [ex];simp [Builtin.len_,hu,hvx.str_inv,goInt]⟩
    ·rename_i hi
     have hu:=zal (w:=w) hT hi
     exact gives ⟨_,_,h,.scalar _ rfl,by rw [ex];simp [Builtin.len_,hu,goInt]⟩
    ·rename_i hi
     have hu:=zal (w:=w) hT hi
     unfold mlenK at h
     split at h
     ·rename_i e3
      rw [e3] at hvx
      exact gives ⟨_,_,h,.scalar _ rfl,by rw [ex];simp [Builtin.len_,hu,hvx.scalar_inv rfl,goInt]⟩
     ·rename_i e3
      rw [e3] at hvx
      obtain ⟨es,cl,hb,h⟩:=h
      obtain ⟨r,hr,e4⟩:=hvx.map_inv
      obtain ⟨r1,g1,g2,_⟩:=R.map _ es cl hb
      rw [hr] at g1
      obtain rfl:=Option.some.inj g1
      exact gives ⟨_,_,h,.scalar _ rfl,by rw [ex];simp [Builtin.len_,hu,e4,MapKept.run_getObj_map g2,goInt]⟩
     ·exact h.elim
    ·exact h.elim
   ·exact h.elim
  ·rename_i hcal
   split at h
   ·rename_i t t2 s x ht hx
    split at h
    ·rename_i e _ _ _ hi
     have hxs:x∈c.args∧s∈c.args:=by
      constructor <;> (rw [← Array.mem_toList_iff,hx];simp)
     refine turns (zqN hT R (t2:=t2) hi rfl type (hv s (by simp [Op.operands,Call.operands];exact .inr hxs.2)) (hv x (by simp [Op.operands,Call.operands];exact .inr hxs.1)) h) ?_ hn
     have e1:c.argTypes=#[t,t2]:=by apply Array.ext';simpa using ht
     have e2:c.args.map a.eval=#[a.eval s,a.eval x]:=by rw [hmap,hx];rfl
     simp only [execOp,resolve,hcal,e1,e2,pure_bind,invoke,builtin]
    ·exact h.elim
   ·exact h.elim
  ·rename_i hcal
   split at h
   ·rename_i t x ht hx
    have hxs:x∈c.args:=by rw [← Array.mem_toList_iff,hx];simp
    have hvx:=hv x (by simp [Op.operands,Call.operands];exact .inr hxs)
    have e1:c.argTypes=#[t]:=by apply Array.ext';simpa using ht
    have e2:c.args.map a.eval=#[a.eval x]:=by rw [hmap,hx];rfl
    split at h
    ·rename_i hi
     have hu:=zal (w:=w) hT hi
     unfold capK at h
     split at h
     ·rename_i e3
      rw [e3] at hvx
      refine gives ⟨_,_,h,.scalar _ rfl,?_⟩
      simp only [execOp,resolve,hcal,e1,e2,pure_bind,invoke,builtin]
      simp [Builtin.cap_,hu,hvx.scalar_inv rfl,goInt]
     ·exact h.elim
    ·exact h.elim
   ·exact h.elim
  ·rename_i hcal
   split at h
   ·rename_i t x ht hx
    have hxs:x∈c.args:=by rw [← Array.mem_toList_iff,hx];simp
    have hvx:=hv x (by simp [Op.operands,Call.operands];exact .inr hxs)
    have e1:c.argTypes=#[t]:=by apply Array.ext';simpa using ht
    have e2:c.args.map a.eval=#[a.eval x]:=by rw [hmap,hx];rfl
    split at h
    ·rename_i e _ _ _ hi
     refine turns (zoh hT R hi rfl type hvx h) ?_ hn
     simp only [execOp,resolve,hcal,e1,e2,pure_bind,invoke,builtin]
    ·exact h.elim
   ·exact h.elim
  ·rename_i b hb1 hb2 hb3 hb4 hb5 hcal
   unfold bltK at h
   split at h
   ·exact absurd rfl hb2
   ·rename_i k x k' y he
    rcases zat h with ⟨hk,h2⟩|⟨_,h2⟩
    ·obtain rfl:=of_decide_eq_true hk
     rw [he] at hargs
     have e2:c.args.map a.eval=#[.int k x,.int k y]:=by rw [hmap,zpl hargs]
     refine gives ⟨_,_,h2,.scalar _ rfl,?_⟩
     simp [execOp,resolve,hcal,e2,invoke,builtin,Builtin.min_,Builtin.min2]
    ·exact h2.elim
   ·rename_i k x k' y he
    rcases zat h with ⟨hk,h2⟩|⟨_,h2⟩
    ·obtain rfl:=of_decide_eq_true hk
     rw [he] at hargs
     have e2:c.args.map a.eval=#[.int k x,.int k y]:=by rw [hmap,zpl hargs]
     refine gives ⟨_,_,h2,.scalar _ rfl,?_⟩
     simp [execOp,resolve,hcal,e2,invoke,builtin,Builtin.max_,Builtin.max2]
    ·exact h2.elim
   ·exact h.elim
  ·rename_i f hcal
   have hf:=hv f (by simp [Op.operands,Call.operands,hcal])
   unfold callV at h
   split at h
   ·rename_i g first captured hg
    rw [hg] at hf
    obtain ⟨x',y',hf,h1,h2⟩:=hf.func_inv
    obtain ⟨⟨fn,hfn,hnm,hbd⟩,hc⟩:=h
    have hcall:=hc w0 w ρ _ R ((h1.append hargs).append h2)
    have ex:(execOp a.eval ⟨dst,.call c,type,pos,after,guard⟩).run P w=.ok (.enter g ⟨x'++c.args.toList.map a.eval++y'⟩) w:=by
     simp only [execOp,resolve,hcal,hf,Deferred.ofValue,pure_bind,invoke,callFunc,Sem.run_bind,run_program,Result.andThen_ok,hfn,hnm,hbd,hmap]
     simp
    unfold Oper.wp
    rw [ex]
    simp only [Oper.upon]
    refine hcall.mono ?_
    rintro e w' ⟨v,v',ρ',H',rfl,hp,hle,hvv,R'⟩
    split at hp
    ·exact hn v v' ρ' H' w' (ziK hp) hle hvv R'
    ·exact hp.elim
   ·exact h.elim
  ·exact h.elim
 case alloc e=>
  simp only [aOp,aEf] at h
  split at h
  ·rename_i ti he
   exact turns (zo2 hT R he h) rfl hn
  ·exact h.elim
 case box e x=>
  simp only [aOp,aEf] at h
  split at h
  ·rename_i ti he
   exact turns (ztm hT R he (hv x (by simp [Op.operands])) h) rfl hn
  ·exact h.elim
 case buildSlice t len parts=>
  simp only [aOp,aEf] at h
  split at h
  ·rename_i hi
   split at h
   ·rename_i ti he
    rcases zat h with ⟨hl,h⟩|⟨_,h⟩
    ·have e1:VRs ρ (List.map (·.2) (parts.toList.map fun p=>(p.1,aev env p.2))) (List.map (·.2) (parts.toList.map fun p=>(p.1,a.eval p.2))):=by
      have:=VRs.map_ev (ρ:=ρ) (aev env) a.eval (l:=parts.toList.map (·.2)) (fun x hx=>hv x (by simpa [Op.operands] using hx))
      rw [List.map_map,List.map_map] at this ⊢
      exact this
     have hb:=zhJ hT R hi rfl he (of_decide_eq_true hl) (by simp [List.map_map]) e1 h
     refine turns hb ?_ hn
     have:(parts.map fun p=>(p.1,a.eval p.2))=⟨parts.toList.map fun p=>(p.1,a.eval p.2)⟩:=by
      apply Array.ext';simp
     rw [← this];rfl
    ·exact h.elim
   ·exact h.elim
  ·exact h.elim
 case makeSlice t l c=>
  simp only [aOp,aEf] at h
  split at h
  ·rename_i hi
   unfold mkK at h
   split at h
   ·rename_i ti k n k' m he e1 e2
    obtain ⟨h0,h1,h2,h3,h⟩:=h
    have g1:=hv l (by simp [Op.operands])
    have g2:=hv c (by simp [Op.operands])
    rw [e1] at g1
    rw [e2] at g2
    exact turns (ziF (k:=k) (k':=k') hT R hi rfl he h0 h1 h2 h3 h) (by simp [execOp,g1.int_inv,g2.int_inv]) hn
   ·exact h.elim
  ·exact h.elim
 case store t p x=>
  simp only [aOp,aEf] at h
  split at h
  ·rename_i ti ht
   obtain ⟨H',w',h1,h2,h3⟩:=znY hT R ht (hv x (by simp [Op.operands])) (hv p (by simp [Op.operands])) (K:=fun H'=>K undef H') h
   unfold Oper.wp
   simp only [execOp,Sem.run_bind,h3,Result.andThen_ok,Sem.run_pure,Oper.upon]
   exact hn undef undef ρ H' w' h1 (Loc.le_refl _) (VR.undef _) h2
  ·exact h.elim
 case makeMap t r=>
  cases r with
  | none=>
   simp only [aOp] at h
   have h:K (.map (some H.length)) (H++[some (.map #[] 0)]):=h
   refine turns (K:=K) ⟨_,.map (some w.heap.size),_,_,_,h,R.le_upd _,.map _ _ (Loc.upd_same _ _ _),R.newMap,?_⟩ (by simp only [execOp,Option.map_none];rfl) hn
   simp [Instr.makeMap]
  | some r=>exact h.elim
 case mapUpdate t m k x=>
  simp only [aOp] at h
  split at h
  ·rename_i kt et _ _ _ hi
   obtain ⟨H',w',h1,h2,h3⟩:=ze0 hT R hi rfl (hv m (by simp [Op.operands])) (hv k (by simp [Op.operands])) (hv x (by simp [Op.operands])) h
   unfold Oper.wp
   simp only [execOp,Sem.run_bind,h3,Result.andThen_ok,Sem.run_pure,Oper.upon]
   exact hn undef undef ρ H' w' h1 (Loc.le_refl _) (VR.undef _) h2
  ·exact h.elim
 case insert t m k x=>
  simp only [aOp] at h
  split at h
  ·rename_i kt et _ _ _ hi
   obtain ⟨H',w',h1,h2,h3⟩:=ze0 hT R hi rfl (hv m (by simp [Op.operands])) (hv k (by simp [Op.operands])) (hv x (by simp [Op.operands])) h
   unfold Oper.wp
   simp only [execOp,Sem.run_bind,h3,Result.andThen_ok,Sem.run_pure,Oper.upon]
   exact hn undef undef ρ H' w' h1 (Loc.le_refl _) (VR.undef _) h2
  ·exact h.elim
 case convert s d x=>
  simp only [aOp] at h
  split at h
  ·rename_i hby
   split at h
   ·rename_i hst
    have hvx:=hv x (by simp [Op.operands])
    obtain ⟨ns,hc,hk⟩:=h
    obtain ⟨y,c',e3,hl,hload⟩:=zhC (P:=P) R hc hvx
    unfold isBytes at hby
    split at hby
    ·rename_i e _ _ _ hi
     split at hby
     ·rename_i he
      unfold isString at hst
      split at hst
      ·rename_i hd
       have u1:=zal (w:=w) hT hi
       have u2:=zal (w:=w) hT hd
       have u3:=zal (w:=w) hT he
       refine gives ⟨_,_,hk,.scalar _ rfl,?_⟩
       simp only [execOp,e3,convert,Sem.run_bind,u1,u2,u3,Result.andThen_ok]
       rcases hload with ⟨hm,_⟩|⟨c,xs',rfl,hvs,_,hrun⟩
       ·have:ns=[]:=List.length_eq_zero_iff.1 hm
        subst this
        cases y with
        | none=>simp [Conv.bytesToString,bytesOf]
        | some y=>
         have hz:(loadCells y 0).run P w=.ok (([]:List Int).map (Value.int .u8)).toArray w:=by simp [loadCells,loadCellsFrom]
         have:=run_bytesToString w y 0 c' [] hz
         simp only [List.length_nil,this,Result.andThen_ok,Sem.run_pure];rfl
       ·have hsc:xs'=ns.map (Value.int .u8):=by
         have:∀ {l:List Int} {l':List Value},VRs ρ (l.map (Value.int .u8)) l'→l'=l.map (Value.int .u8):=by
          intro l
          induction l with
          | nil=>intro l' h;cases h;rfl
          | cons n l ih=>intro l' h;cases h with|cons _ _ _ _ h1 h2=>rw [h1.int_inv,ih h2];rfl
         exact this hvs
        have hr:=hrun w rfl
        rw [Nat.mul_one,hsc] at hr
        have:=run_bytesToString w c ns.length c' ns hr
        simp only [this,Result.andThen_ok,Sem.run_pure];rfl
      ·cases hst
     ·cases hby
    ·cases hby
   ·exact h.elim
  ·exact gives (znA hT R hv (K:=fun v=>K v H) h)
 case lookup t m k ok=>
  simp only [aOp] at h
  split at h
  ·rename_i kt et _ _ _ hi
   split at h
   ·rename_i ti he
    obtain ⟨v,h1,h2,h3⟩:=znF hT R hi rfl he (hv m (by simp [Op.operands])) (hv k (by simp [Op.operands])) h
    split at h1
    ·exact gives ⟨v,v,ziK h1,h2,by simp only [execOp,Sem.run_bind,h3,Result.andThen_ok,Sem.run_pure]⟩
    ·exact h1.elim
   ·exact h.elim
  ·exact h.elim
 all_goals exact gives (znA hT R hv (K:=fun v=>K v H) h)
def FitAt (ρ:Loc) (env:Env) (a:Act) (t:Nat):Prop:=VR ρ (env.getD t undef) (a.tmps.toList.getD t undef)
theorem FitAt.get {t:Nat} (hl:env.length=a.tmps.size) (h:FitAt ρ env a t) {v:Value} (hv:env[t]?=some v):∃ v',a.tmps[t]?=some v'∧VR ρ v v':=by
 have hlt:=zaj hv
 have hlt':t<a.tmps.size:=by omega
 refine ⟨a.tmps[t],Array.getElem?_eq_getElem hlt',?_⟩
 unfold FitAt at h
 simp [List.getD,hv,hlt'] at h
 exact h
theorem EnvR.fit (E:EnvR ρ env a) (t:Nat):FitAt ρ env a t:=E.vals.getD t (VR.undef ρ)
theorem zdt {env:Env} {t:Nat} {v:Value} (h:env[t]?=some v):env.set t v=env:=by
 apply List.ext_getElem?
 intro i
 by_cases hi:i=t
 ·subst hi;rw [List.getElem?_set_self (zaj h),h]
 ·rw [List.getElem?_set_ne (by omega)]
def guardTmp (all:List Oper) (o:Oper):Option Tmp:=o.guard.bind fun g=>(all[g.1]?).bind (·.dst)
theorem zcS {all:List Oper} {K:Env→Bool→Prop} (hl:env.length=a.tmps.size) (E:∀ t,guardTmp all o=some t→FitAt ρ env a t) (h:guardK all o env K):∃ b,K env b∧Region.wanted o (yielded all.toArray a.tmps)=b:=by
 unfold guardK at h
 split at h
 ·rename_i hg;exact ⟨true,h,by simp [Region.wanted,hg]⟩
 ·rename_i j want hg
  split at h
  ·rename_i ht
   refine ⟨false,h,?_⟩
   have:yielded all.toArray a.tmps j=none:=by
    simp only [yielded,List.getElem?_toArray,ht,Option.bind_none]
   simp [Region.wanted,hg,this]
  ·rename_i t ht
   split at h
   ·rename_i b hb
    obtain ⟨v',hv',hvr⟩:=FitAt.get hl (E t (by simp [guardTmp,hg,ht])) hb
    have hv':a.tmps[t]?=some (.bool b):=by rw [hv',hvr.bool_inv]
    have hy:yielded all.toArray a.tmps j=some b:=by
     simp only [yielded,List.getElem?_toArray,ht,Option.bind_some,hv']
    rcases zat h with ⟨rfl,h⟩|⟨rfl,h⟩
    ·rw [zdt hb] at h
     exact ⟨_,h,by simp only [Region.wanted,hg,hy];cases want <;> rfl⟩
    ·rw [zdt hb] at h
     exact ⟨_,h,by simp only [Region.wanted,hg,hy];cases want <;> rfl⟩
   ·rename_i hb
    obtain ⟨v',hv',hvr⟩:=FitAt.get hl (E t (by simp [guardTmp,hg,ht])) hb
    have hv':a.tmps[t]?=some (.tuple ⟨[]⟩):=by
     rw [hv']
     obtain ⟨l,rfl,hl⟩:=hvr.tuple_inv
     cases hl;rfl
    have hy:yielded all.toArray a.tmps j=none:=by
     simp only [yielded,List.getElem?_toArray,ht,Option.bind_some,hv']
    exact ⟨false,h,by simp [Region.wanted,hg,hy]⟩
   ·exact h.elim
theorem zha (hT:TT.ok P T) {all:List Oper} {Q:Exit→Act→World→Prop} {K:Env→AHeap→Prop}:∀ (rest:List Oper) (env:Env) (H:AHeap) (ρ:Loc) (a:Act) (w:World),
 Rel T P.globals.size w0 ρ H w→EnvR ρ env a→aOps P T all rest env H K→
 (∀ env' H' ρ' a' w',K env' H'→ρ.le ρ'→EnvR ρ' env' a'→Rel T P.globals.size w0 ρ' H' w'→Q .normal a' w')→wpList P all.toArray Q rest a w
 | [],env,H,ρ,a,w,R,E,h,hq=>hq env H ρ a w h (Loc.le_refl _) E R
 | o::rest,env,H,ρ,a,w,R,E,h,hq=>by
  rcases zat h with ⟨hok,h⟩|⟨_,h⟩
  ·have hok':∀ x∈o.op.operands,operandOK P.globals.size x=true:=fun x hx=>List.all_eq_true.1 hok x (by simpa using hx)
   obtain ⟨b,h,hw⟩:=zcS (by simpa using E.vals.length) (fun t _=>E.fit t) h
   unfold wpList
   cases b with
   | true=>
    rw [if_pos hw]
    left
    refine zeB hT R (fun x hx=>zlw R.glob E (hok' x hx)) (show aOp P T o (aev env) H _ from h) ?_
    intro v v' ρ' H' w' hk hle hvv R'
    exact zha hT rest _ H' ρ' _ w' R' ((E.mono hle).put hvv) hk (fun env' H' ρ'' a' w' k1 k2=>hq env' H' ρ'' a' w' k1 (Loc.le_trans hle k2))
   | false=>
    rw [if_neg (by simp [hw])]
    exact zha hT rest _ H ρ _ w R (E.put (VR.undef ρ)) h hq
  ·exact h.elim
end
end Go.Abs
/- Code over the abstract heap: the triple and its rules. -/
namespace Go.Abs
open Go.RowKit

def lift (P:Program) (T:TT) (w0:World) (ρ:Loc) (Q:Exit→Env→AHeap→Prop):Exit→Act→World→Prop:=
 fun e a w=>∃ env H ρ',Q e env H∧ρ.le ρ'∧EnvR ρ' env a∧Rel T P.globals.size w0 ρ' H w
def AW (P:Program) (T:TT) (c:Code) (env:Env) (H:AHeap) (Q:Exit→Env→AHeap→Prop):Prop:=
 ∀ (w0 w:World) (ρ:Loc) (a:Act),Rel T P.globals.size w0 ρ H w→EnvR ρ env a→c.wp P (lift P T w0 ρ Q) a w
def thenQ (Q:Exit→Env→AHeap→Prop) (K:Env→AHeap→Prop):Exit→Env→AHeap→Prop
 | .normal,env,H=>K env H
 | e,env,H=>Q e env H
def blockQ (id:Nat) (Q:Exit→Env→AHeap→Prop):Exit→Env→AHeap→Prop
 | .exit id',env,H=>if id'=id then Q .normal env H else Q (.exit id') env H
 | e,env,H=>Q e env H
section
variable {P:Program} {T:TT} {H:AHeap} {env:Env} {Q Q':Exit→Env→AHeap→Prop} {c x y:Code}

theorem zyR {w0:World} {ρ ρ':Loc} (h:ρ.le ρ') {e:Exit} {a:Act} {w:World} (k:lift P T w0 ρ' Q e a w):lift P T w0 ρ Q e a w:=by
 obtain ⟨env,H,ρ'',h1,h2,h3⟩:=k
 exact ⟨env,H,ρ'',h1,Loc.le_trans h h2,h3⟩
theorem AW.mono (h:AW P T c env H Q) (hq:∀ e env H,Q e env H→Q' e env H):AW P T c env H Q':=
 fun w0 w ρ a R E=>wp_mono (h w0 w ρ a R E) fun e a w ⟨env,H,ρ',h1,h2⟩=>⟨env,H,ρ',hq _ _ _ h1,h2⟩
theorem AW.skip (h:Q .normal env H):AW P T .skip env H Q:=fun w0 w ρ a R E=>wp_skip ⟨env,H,ρ,h,Loc.le_refl _,E,R⟩
theorem AW.exit {id:Nat} (h:Q (.exit id) env H):AW P T (.exit id) env H Q:=fun w0 w ρ a R E=>wp_exit ⟨env,H,ρ,h,Loc.le_refl _,E,R⟩
theorem AW.ret (h:Q .ret env H):AW P T .ret env H Q:=fun w0 w ρ a R E=>wp_ret ⟨env,H,ρ,h,Loc.le_refl _,E,R⟩
theorem AW.seq (h:AW P T x env H (thenQ Q fun env H=>AW P T y env H Q)):AW P T (.seq x y) env H Q:=by
 intro w0 w ρ a R E
 refine wp_seq (wp_mono (h w0 w ρ a R E) ?_)
 rintro e a' w' ⟨env',H',ρ',h1,h2,h3,h4⟩
 cases e with
 | normal=>exact wp_mono (h1 w0 w' ρ' a' h4 h3) fun e a w k=>zyR h2 k
 | exit id=>exact ⟨env',H',ρ',h1,h2,h3,h4⟩
 | goto l=>exact ⟨env',H',ρ',h1,h2,h3,h4⟩
 | ret=>exact ⟨env',H',ρ',h1,h2,h3,h4⟩
 | panic ch=>exact ⟨env',H',ρ',h1,h2,h3,h4⟩
 | outgrown=>exact ⟨env',H',ρ',h1,h2,h3,h4⟩
theorem AW.cond {o:Operand} (ho:operandOK P.globals.size o=true) (h:asB (aev env o) fun b=>pif b (AW P T x env H Q) (AW P T y env H Q)):AW P T (.cond o x y) env H Q:=by
 intro w0 w ρ a R E
 obtain ⟨b,hb,h⟩:=zc9 h
 have hv:=zlw R.glob E ho
 rw [hb] at hv
 rcases zat h with ⟨rfl,h⟩|⟨rfl,h⟩
 ·exact wp_cond_true hv.bool_inv (h w0 w ρ a R E)
 ·exact wp_cond_false hv.bool_inv (h w0 w ρ a R E)
theorem AW.block {id:Nat} (h:AW P T c env H (blockQ id Q)):AW P T (.block id c) env H Q:=by
 intro w0 w ρ a R E
 refine wp_block (wp_mono (h w0 w ρ a R E) ?_)
 rintro e a' w' ⟨env',H',ρ',h1,h2⟩
 cases e with
 | exit id'=>
  simp only [blockQ] at h1
  simp only [Exit.inBlock]
  split
  ·rename_i he;rw [if_pos he] at h1;exact ⟨env',H',ρ',h1,h2⟩
  ·rename_i he;rw [if_neg he] at h1;exact ⟨env',H',ρ',h1,h2⟩
 | normal=>exact ⟨env',H',ρ',h1,h2⟩
 | goto l=>exact ⟨env',H',ρ',h1,h2⟩
 | ret=>exact ⟨env',H',ρ',h1,h2⟩
 | panic ch=>exact ⟨env',H',ρ',h1,h2⟩
 | outgrown=>exact ⟨env',H',ρ',h1,h2⟩
theorem AW.region (hT:TT.ok P T) {id:Nat} {l:List Oper} (h:aOps P T l l env H fun env H=>Q .normal env H):AW P T (.region id ⟨l⟩ false) env H Q:=by
 intro w0 w ρ a R E
 refine wp_region_lit (l:=l) (zha (w0:=w0) hT l env H ρ a w R E h ?_)
 intro env' H' ρ' a' w' k1 k2 k3 k4
 exact ⟨env',H',ρ',k1,k2,k3,k4⟩
def resK (T:TT):List ResultVar→Env→AHeap→(List Value→Prop)→Prop
 | [],_,_,K=>K []
 | .tmp t::rest,env,H,K=>resK T rest env H fun l=>K (env.getD t undef::l)
 | .cell t ty::rest,env,H,K=>asP (env.getD t undef) fun b o=>ldT T ty H b o fun v=>resK T rest env H fun l=>K (v::l)
def retV (l:List Value):Value:=
 match l with
 | [v]=>v
 | l=>.tuple ⟨l⟩
def retQ (T:TT) (fn:Func) (Post:Value→AHeap→Prop):Exit→Env→AHeap→Prop
 | .normal,env,H|.ret,env,H=>resK T fn.results.toList env H fun l=>Post (retV l) H
 | _,_,_=>False
def resOf (tmps:Array Value) (rv:ResultVar):Sem Value:=
 match rv with
 | .tmp t=>pure (tmps.getD t undef)
 | .cell a t=>do loadVar t (← Go.asAddr (tmps.getD a undef))
theorem zqU (fn:Func) (tmps:Array Value):results fn tmps=(do let vs ← fn.results.mapM (resOf tmps);pure (if h:vs.size=1 then vs[0] else .tuple vs)):=by
 unfold results
 congr 1
theorem zhb (hT:TT.ok P T) {w0 w:World} {ρ:Loc} {a:Act} (R:Rel T P.globals.size w0 ρ H w) (E:EnvR ρ env a):∀ (rs:List ResultVar) (K:List Value→Prop),resK T rs env H K→
 ∃ l l',K l∧VRs ρ l l'∧(rs.mapM (resOf a.tmps)).run P w=.ok l' w
 | [],K,h=>⟨[],[],h,.nil,rfl⟩
 | .tmp t::rs,K,h=>by
  obtain ⟨l,l',h1,h2,h3⟩:=zhb hT R E rs (fun l=>K (env.getD t undef::l)) h
  have hv:=zlw R.glob E (x:=.tmp t) rfl
  refine ⟨_,_,h1,.cons _ _ _ _ hv h2,?_⟩
  simp only [List.mapM_cons,resOf,Sem.run_bind,Sem.run_pure,Result.andThen_ok,h3]
  rfl
 | .cell x t::rs,K,h=>by
  obtain ⟨b,o,hb,h⟩:=zbS h
  have hv:=zlw R.glob E (x:=.tmp x) rfl
  simp only [aev] at hv
  rw [hb] at hv
  obtain ⟨r,hr,hv⟩:=hv.ptr_inv
  obtain ⟨v,v',g1,g2,g3⟩:=znK hT R h hr rfl
  obtain ⟨l,l',h1,h2,h3⟩:=zhb hT R E rs (fun l=>K (v::l)) g1
  refine ⟨_,_,h1,.cons _ _ _ _ g2 h2,?_⟩
  simp only [Act.eval] at hv
  simp only [List.mapM_cons,resOf,Sem.run_bind,hv,Go.asAddr,Sem.run_pure,Result.andThen_ok,g3,h3]
theorem AC.of_code (hT : TT.ok P T) {f : FuncId} {fn : Func} {args : List Value} {Post : Value → AHeap → Prop} (hf : P.funcs[f]? = some fn) (hb : fn.body = some c) (hn : (fn.name == "runtime.NumGoroutine") = false)
 (h:AW P T c (args++List.replicate (fn.ntmps-args.length) undef) H (retQ T fn Post)):AC P T f args H Post:=by
 refine ⟨⟨fn,hf,hn,by simp [hb]⟩,?_⟩
 intro w0 w ρ args' R hv
 refine calls_of_wp hf hb ?_
 have E:EnvR ρ (args++List.replicate (fn.ntmps-args.length) undef) { tmps:=(⟨args'⟩:Array Value)++Array.replicate (fn.ntmps-(⟨args'⟩:Array Value).size) undef,defers:=[] }:=by
  refine ⟨?_,rfl⟩
  have:=hv.append (VRs.replicate (VR.undef ρ) (fn.ntmps-args.length))
  simpa [hv.length] using this
 refine wp_mono (h w0 w ρ _ R E) ?_
 rintro e a' w' ⟨env',H',ρ',h1,h2,h3,h4⟩
 have fin:resK T fn.results.toList env' H' (fun l=>Post (retV l) H')→∃ v,(results fn a'.tmps).run P w'=.ok v w'∧(∃ u u' ρ'' H'',Ending.returned v=.returned u'∧Post u H''∧ρ.le ρ''∧VR ρ'' u u'∧Rel T P.globals.size w0 ρ'' H'' w'):=by
  intro hr
  obtain ⟨l,l',g1,g2,g3⟩:=zhb hT h4 h3 _ _ hr
  have hm:(fn.results.mapM (resOf a'.tmps)).run P w'=.ok l'.toArray w':=by
   rw [← Array.toArray_toList (xs:=fn.results),List.mapM_toArray,Sem.run_map,g3];rfl
  refine ⟨if h:l'.toArray.size=1 then l'.toArray[0] else .tuple l'.toArray,?_,retV l,_,ρ',H',rfl,g1,h2,?_,h4⟩
  ·rw [zqU,Sem.run_bind,hm];rfl
  ·cases g2 with
   | nil=>exact .tuple _ _ .nil
   | cons x x' xs xs' k1 k2=>
    cases k2 with
    | nil=>simpa [retV] using k1
    | cons y y' ys ys' k3 k4=>
     simp only [retV]
     exact .tuple _ _ (.cons _ _ _ _ k1 (.cons _ _ _ _ k3 k4))
 cases e with
 | normal=>obtain ⟨v,k1,k2⟩:=fin h1;exact ⟨h3.defers,v,k1,k2⟩
 | ret=>obtain ⟨v,k1,k2⟩:=fin h1;exact ⟨h3.defers,v,k1,k2⟩
 | exit id=>exact h1.elim
 | goto l=>exact h1.elim
 | panic ch=>exact h1.elim
 | outgrown=>exact h1.elim
end
end Go.Abs
/- Operations that read or reckon give ONE value, and give it in every greater heap. -/
namespace Go.Abs
open Go.RowKit

def isEff (o:Oper):Bool:=
 match o.op with
 | .alloc _|.box _ _|.buildSlice _ _ _|.makeSlice _ _ _|.store _ _ _|.makeMap _ _|.mapUpdate _ _ _ _|.insert _ _ _ _|.lookup _ _ _ _=>true
 | .call c=>match c.callee with
  | .builtin .len|.builtin .min|.builtin .max=>false
  | _=>true
 | _=>false
section
variable {P:Program} {T:TT} {H H':AHeap} {ev:Operand→Value}

def One {α:Type} (X Y:(α→Prop)→Prop):Prop:=∀ K,X K→∃ x,K x∧Y (fun u=>u=x)
theorem One.bind {α β:Type} {X Y:(α→Prop)→Prop} {f g:α→(β→Prop)→Prop} (h:One X Y) (hm:∀ (K K':α→Prop),Y K→(∀ x,K x→K' x)→Y K') (hf:∀ x,One (f x) (g x)) :
 One (fun K=>X fun x=>f x K) (fun K=>Y fun x=>g x K):=by
 intro K hX
 obtain ⟨x,h1,h2⟩:=h _ hX
 obtain ⟨y,h3,h4⟩:=hf x K h1
 exact ⟨y,h3,hm _ _ h2 fun u hu=>by subst hu;exact h4⟩
theorem zuC (v:Value):One (asAgg v) (asAgg v):=fun K h=>by
 obtain ⟨n,rfl,h⟩:=zbD h;exact ⟨n,h,rfl⟩
theorem zwd {k:IntKind} {v:Value} {K K':Int→Prop} (h:asI k v K) (hk:∀ x,K x→K' x):asI k v K':=by obtain ⟨n,rfl,h'⟩:=zfu h;exact zag (hk _ h')
theorem zpN {v:Value} {K K':Bool→Prop} (h:asB v K) (hk:∀ x,K x→K' x):asB v K':=by obtain ⟨n,rfl,h⟩:=zc9 h;exact hk _ h
theorem zw3 {v:Value} {K K':ByteArray→Prop} (h:asS v K) (hk:∀ x,K x→K' x):asS v K':=by obtain ⟨n,rfl,h⟩:=zdA h;exact hk _ h
theorem zqL {v:Value} {K K':List Value→Prop} (h:asAgg v K) (hk:∀ x,K x→K' x):asAgg v K':=by obtain ⟨n,rfl,h⟩:=zbD h;exact hk _ h
theorem zqD {v:Value} {K K':List Value→Prop} (h:asTup v K) (hk:∀ x,K x→K' x):asTup v K':=by obtain ⟨n,rfl,h⟩:=zdQ h;exact hk _ h
theorem zv7 {v:Value} {K K':Nat→Nat→Prop} (h:asP v K) (hk:∀ x y,K x y→K' x y):asP v K':=by obtain ⟨b,o,rfl,h⟩:=zbS h;exact hk _ _ h
theorem One.pif {α:Type} (b:Bool) {X Y:(α→Prop)→Prop} (h:One X Y):One (fun K=>pif b (X K) False) (fun K=>pif b (Y K) False):=fun K hX=>by
 rcases zat hX with ⟨rfl,hX⟩|⟨_,hX⟩
 ·obtain ⟨x,h1,h2⟩:=h K hX;exact ⟨x,h1,h2⟩
 ·exact hX.elim
theorem One.pif2 {α:Type} (b:Bool) {X Y X' Y':(α→Prop)→Prop} (h:One X Y) (h':One X' Y'):One (fun K=>Abs.pif b (X K) (X' K)) (fun K=>Abs.pif b (Y K) (Y' K)):=fun K hX=>by
 rcases zat hX with ⟨rfl,hX⟩|⟨rfl,hX⟩
 ·obtain ⟨x,h1,h2⟩:=h K hX;exact ⟨x,h1,h2⟩
 ·obtain ⟨x,h1,h2⟩:=h' K hX;exact ⟨x,h1,h2⟩
theorem One.and {α:Type} {p:Prop} {X Y:(α→Prop)→Prop} (h:One X Y):One (fun K=>p∧X K) (fun K=>p∧Y K):=fun K hX=>by
 obtain ⟨x,h1,h2⟩:=h K hX.2;exact ⟨x,h1,hX.1,h2⟩
theorem One.none {α:Type} {Y:(α→Prop)→Prop}:One (fun _=>False) Y:=fun _ h=>h.elim
theorem za9 {z v:Value} {K K':Value→Prop} (h:shape1 z v K) (hk:∀ x,K x→K' x):shape1 z v K':=by
 unfold shape1 at *
 split at h
 ·exact zwd h fun _=>hk _
 ·exact zpN h fun _=>hk _
 ·exact zw3 h fun _=>hk _
 ·exact hk _ h
theorem zgT (z v:Value):One (shape1 z v) (shape1 z v):=by
 intro K h
 refine ⟨v,zaX h,?_⟩
 unfold shape1 at *
 split at h
 ·obtain ⟨n,rfl,_⟩:=zfu h;exact zag rfl
 ·obtain ⟨n,rfl,_⟩:=zc9 h;rfl
 ·obtain ⟨n,rfl,_⟩:=zdA h;rfl
 ·rfl
theorem zt4 (hle:H.le H') (b o:Nat):One (ld1 H b o) (ld1 H' b o):=by
 intro K h
 obtain ⟨v,hv,hk⟩:=zh5 h
 refine ⟨v,hk,?_⟩
 unfold ld1;rw [AHeap.cell_le hle hv]
theorem zli {b o:Nat} {K K':Value→Prop} (h:ld1 H b o K) (hk:∀ x,K x→K' x):ld1 H b o K':=by
 obtain ⟨v,hv,h⟩:=zh5 h
 unfold ld1;rw [hv];exact hk _ h
theorem zew {b:Nat}:∀ {zs:List Value} {o:Nat} {K K':List Value→Prop},ldCells H b o zs K→(∀ x,K x→K' x)→ldCells H b o zs K'
 | [],_,_,_,h,hk=>hk _ h
 | z::zs,o,K,K',h,hk=>zli h fun v hv=>za9 hv fun v hv=>zew hv fun l hl=>hk _ hl
theorem zje (hle:H.le H') (b:Nat):∀ (zs:List Value) (o:Nat),One (ldCells H b o zs) (ldCells H' b o zs)
 | [],_=>fun K h=>⟨[],h,rfl⟩
 | z::zs,o=>by
  refine One.bind (X:=ld1 H b o) (Y:=ld1 H' b o) (f:=fun v K=>shape1 z v fun v=>ldCells H b (o+1) zs fun l=>K (v::l)) (g:=fun v K=>shape1 z v fun v=>ldCells H' b (o+1) zs fun l=>K (v::l)) (zt4 hle b o) (fun _ _ h hk=>zli h hk) fun v=>?_
  refine One.bind (f:=fun v K=>ldCells H b (o+1) zs fun l=>K (v::l)) (g:=fun v K=>ldCells H' b (o+1) zs fun l=>K (v::l)) (zgT z v) (fun _ _ h hk=>za9 h hk) fun v=>?_
  refine One.bind (f:=fun l K=>K (v::l)) (g:=fun l K=>K (v::l)) (zje hle b zs (o+1)) (fun _ _ h hk=>zew h hk) fun l K h=>⟨_,h,rfl⟩
theorem zzr (hle:H.le H') (t:TypeId) (b o:Nat):One (ldT T t H b o) (ldT T t H' b o):=by
 intro K h
 unfold ldT at *
 split at h
 ·rename_i i hi
  rcases zat h with ⟨hf,h⟩|⟨_,h⟩
  ·cases hz:i.zero
   case agg cs=>
    obtain ⟨zs⟩:=cs
    simp only [hz] at h
    obtain ⟨l,h1,h2⟩:=zje hle b zs o _ h
    refine ⟨_,h1,?_⟩
    rw [hf]
    exact zew h2 fun l hl=>by rw [hl]
   all_goals
    simp only [hz] at h
    obtain ⟨v,h1,h2⟩:=One.bind (f:=fun v K=>shape1 _ v K) (g:=fun v K=>shape1 _ v K) (zt4 hle b o) (fun _ _ h hk=>zli h hk) (fun v=>zgT _ v) K h
    refine ⟨v,h1,?_⟩
    rw [hf]
    exact h2
  ·exact h.elim
 ·exact h.elim
theorem zdY (op:BinOp) (k:IntKind) (x y:Int):One (bitsOf op k x y) (bitsOf op k x y):=by
 intro K h
 cases op <;> first|exact ⟨_,h,rfl⟩|exact h.elim
theorem zkq (op:BinOp) (k:IntKind) (x y:Int):One (shiftK op k x y) (shiftK op k x y):=by
 intro K h
 cases op <;> first|exact ⟨_,h.2,h.1,rfl⟩|exact h.elim
theorem zmC {y:Int} {K:Prop} (h:y≠0) (hk:K):nzK y K:=by
 unfold nzK
 have:(y != 0)=true:=by simpa using h
 rw [this];exact hk
theorem zwC (op:BinOp) (k:IntKind) (x y:Int):One (intK op k x y) (intK op k x y):=by
 intro K h
 cases op
 case quo=>obtain ⟨h0,h⟩:=zhO h;exact ⟨_,h,zmC h0 rfl⟩
 case rem=>obtain ⟨h0,h⟩:=zhO h;exact ⟨_,h,zmC h0 rfl⟩
 case and=>exact zdY .and k x y K (show bitsOf .and k x y K from h)
 case or=>exact zdY .or k x y K (show bitsOf .or k x y K from h)
 case xor=>exact zdY .xor k x y K (show bitsOf .xor k x y K from h)
 case andNot=>exact zdY .andNot k x y K (show bitsOf .andNot k x y K from h)
 all_goals first|exact ⟨_,h,rfl⟩|exact h.elim
theorem zvk (op:BinOp) (x y:ByteArray):One (strK op x y) (strK op x y):=by
 intro K h
 cases op
 case add=>exact ⟨_,h.2,h.1,rfl⟩
 all_goals first|exact ⟨_,h,rfl⟩|exact h.elim
theorem zk4 (op:BinOp) (b:Bool):One (eqOp op b) (eqOp op b):=by
 intro K h
 cases op <;> first|exact ⟨_,h,rfl⟩|exact h.elim
theorem zuS {v u:List Value} {K K':Bool→Prop} (h:eq2K v u K) (hk:∀ x,K x→K' x):eq2K v u K':=by
 obtain ⟨x,y,z,t,rfl,rfl,h'⟩:=zga h
 exact hk _ h'
theorem zuq (v u:List Value):One (eq2K v u) (eq2K v u):=by
 intro K h
 obtain ⟨x,y,z,t,rfl,rfl,h'⟩:=zga h
 exact ⟨_,h',rfl⟩
theorem zqK (op:BinOp) (k:IntKind) (x:Int) (k':IntKind) (y:Int):One (intAll op k x k' y) (intAll op k x k' y):=by
 intro K h
 cases op
 case shl=>exact zkq .shl k x y K h
 case shr=>exact zkq .shr k x y K h
 all_goals exact One.pif _ (zwC _ k x y) K h
theorem zhU (op:BinOp) (t:TypeId) (v u:Value):One (binK T op t v u) (binK T op t v u):=by
 intro K h
 unfold binK at h ⊢
 split at h
 ·exact zqK _ _ _ _ _ K h
 ·exact zvk _ _ _ K h
 ·split at h
  ·exact zk4 _ _ K h
  ·exact h.elim
 ·split at h
  ·split at h
   ·exact One.bind (f:=fun b K=>eqOp op b K) (g:=fun b K=>eqOp op b K) (zuq _ _) (fun _ _ h hk=>zuS h hk) (fun b=>zk4 op b) K h
   ·exact h.elim
  ·exact h.elim
 ·exact h.elim
theorem zqT (v:Value):One (isNilK v) (isNilK v):=by
 intro K h
 obtain ⟨a,n,c,rfl,h⟩:=zfW h
 exact ⟨_,h,rfl⟩
theorem zoG {v:Value} {K K':Bool→Prop} (h:isNilK v K) (hk:∀ x,K x→K' x):isNilK v K':=by
 obtain ⟨a,n,c,rfl,h⟩:=zfW h
 exact hk _ h
theorem zqF (op:BinOp) (t:TypeId) (v:Value):One (nilCmp T op t v) (nilCmp T op t v):=by
 intro K h
 unfold nilCmp at h ⊢
 split at h
 ·exact One.bind (f:=fun b K=>eqOp op b K) (g:=fun b K=>eqOp op b K) (zqT _) (fun _ _ h hk=>zoG h hk) (fun b=>zk4 op b) K h
 ·exact h.elim
theorem zy5 (op:UnOp) (v:Value):One (unK op v) (unK op v):=by
 intro K h
 unfold unK at h ⊢
 split at h
 ·exact ⟨_,h,rfl⟩
 ·exact ⟨_,h,rfl⟩
 ·exact zdY _ _ _ _ K h
 ·exact h.elim
theorem zty (d:TypeId) (v:Value):One (convK T d v) (convK T d v):=by
 intro K h
 unfold convK at h ⊢
 split at h
 ·exact ⟨_,h,rfl⟩
 ·exact ⟨_,h,rfl⟩
 ·exact h.elim
theorem zbF {b:Bool} {A B:Prop} (h:b=true) (k:A):pif b A B:=by rw [h];exact k
theorem zyG (cs:List Value) (i:Nat):One (atK cs i) (atK cs i):=by
 intro K h
 unfold atK at h ⊢
 split at h
 ·exact ⟨_,h,rfl⟩
 ·exact h.elim
theorem zvP {cs:List Value} {i:Nat} {K K':Value→Prop} (h:atK cs i K) (hk:∀ x,K x→K' x):atK cs i K':=by
 unfold atK at h ⊢
 split at h
 ·exact hk _ h
 ·exact h.elim
theorem ziU (t:TypeId) (cs:List Value) (off:Nat):One (partK T t cs off) (partK T t cs off):=by
 intro K h
 unfold partK at h ⊢
 split at h
 ·rename_i i hi
  rcases zat h with ⟨hb,h⟩|⟨_,h⟩
  ·split at h
   ·rename_i hz
    rcases zat h with ⟨hb2,h⟩|⟨_,h⟩
    ·exact ⟨_,h,zbF hb (zbF hb2 rfl)⟩
    ·exact h.elim
   ·rename_i hz
    obtain ⟨x,h1,h2⟩:=zyG _ _ K h
    exact ⟨x,h1,zbF hb h2⟩
  ·exact h.elim
 ·exact h.elim
theorem zrG {t:TypeId} {cs:List Value} {off:Nat} {K K':Value→Prop} (h:partK T t cs off K) (hk:∀ x,K x→K' x):partK T t cs off K':=by
 unfold partK at h ⊢
 split at h
 ·rcases zat h with ⟨hb,h⟩|⟨_,h⟩
  ·refine zbF hb ?_
   split at h
   ·rcases zat h with ⟨hb2,h⟩|⟨_,h⟩
    ·exact zbF hb2 (hk _ h)
    ·exact h.elim
   ·exact zvP h hk
  ·exact h.elim
 ·exact h.elim
theorem zo8 (z v:Value):One (cellsOf z v) (cellsOf z v):=by
 intro K h
 unfold cellsOf at h ⊢
 split at h
 ·exact zuC v K h
 ·rcases zat h with ⟨hb,h⟩|⟨_,h⟩
  ·exact ⟨_,h,zbF hb rfl⟩
  ·exact h.elim
theorem zcY {z v:Value} {K K':List Value→Prop} (h:cellsOf z v K) (hk:∀ x,K x→K' x):cellsOf z v K':=by
 unfold cellsOf at h ⊢
 split at h
 ·exact zqL h hk
 ·rcases zat h with ⟨h1,h⟩|⟨_,h⟩
  ·rw [h1];exact hk _ h
  ·exact h.elim
theorem zmo (place:Nat→Option (Nat × TypeId)):∀ (parts:List (Nat × Value)) (cs:List Value),One (fillK T place parts cs) (fillK T place parts cs)
 | [],cs=>fun K h=>⟨_,h,rfl⟩
 | (i,v)::rest,cs=>fun K h=>by
  unfold fillK at h ⊢
  split at h
  ·rename_i off t hp
   split at h
   ·rename_i ti ht
    rcases zat h with ⟨hb,h⟩|⟨_,h⟩
    ·obtain ⟨x,h1,h2⟩:=One.bind (f:=fun vs K=>pif (decide (vs.length=ti.size∧off+vs.length≤cs.length)) (fillK T place rest (cs.take off++vs++cs.drop (off+vs.length)) K) False) (g:=fun vs K=>pif (decide (vs.length=ti.size∧off+vs.length≤cs.length)) (fillK T place rest (cs.take off++vs++cs.drop (off+vs.length)) K) False)
      (zo8 ti.zero v) (fun _ _ h hk=>zcY h hk) (fun vs=>One.pif _ (zmo place rest _)) K h
     exact ⟨x,h1,zbF hb h2⟩
    ·exact h.elim
   ·exact h.elim
  ·exact h.elim
theorem zwf (v:Value) (i:Int) (sz:Nat):One (fun (K:Value→Prop)=>idxK v i sz fun b o=>K (.pointer (some ⟨b,o,none⟩))) (fun (K:Value→Prop)=>idxK v i sz fun b o=>K (.pointer (some ⟨b,o,none⟩))):=fun K h=>by
 obtain ⟨b,o,n,c,rfl,h0,h1,h'⟩:=zlW (K:=fun b o=>K (.pointer (some ⟨b,o,none⟩))) h
 exact ⟨_,h',h0,h1,rfl⟩
theorem zld (lo hi:Option Value) (n:Nat) (p:Int→Int→Prop) (f:Int→Int→Value):One (fun (K:Value→Prop)=>loOf lo fun l=>hiOf hi n fun h=>p l h∧K (f l h)) (fun (K:Value→Prop)=>loOf lo fun l=>hiOf hi n fun h=>p l h∧K (f l h)):=fun K h=>by
 rcases zbV h with ⟨e1,h2⟩|⟨k,l,e1,h2⟩ <;> rcases zbT h2 with ⟨e2,h3⟩|⟨k',hh,e2,h3⟩ <;> subst e1 <;> subst e2 <;> exact ⟨_,h3.2,h3.1,rfl⟩
theorem zt7 (hle:H.le H') {b:Nat} {e:TypeId} {n:Nat} (h:rowHas H b e n):rowHas H' b e n:=by
 obtain ⟨cs,own,h1,h2⟩:=h
 exact ⟨cs,own,hle.2 _ _ h1,h2⟩
theorem zre (hle:H.le H') (e:TypeId) (v:Value) (lo hi:Option Value) (sz:Nat):One (sliceK H e v lo hi sz) (sliceK H' e v lo hi sz):=by
 intro K h
 unfold sliceK at h ⊢
 split at h
 ·rename_i b o n c
  obtain ⟨h1,h2⟩:=h
  have h2':loOf lo fun l=>hiOf hi n fun h=>(0≤l∧l≤h∧h≤(n:Int))∧K (.slice (some ⟨b,o+l.toNat*sz,none⟩) (h.toNat-l.toNat) (h.toNat-l.toNat+1)):=by
   rcases zbV h2 with ⟨e1,h2⟩|⟨k,l,e1,h2⟩ <;> rcases zbT h2 with ⟨e2,h3⟩|⟨k',hh,e2,h3⟩ <;> subst e1 <;> subst e2 <;> obtain ⟨g1,g2,g3,g4⟩:=h3 <;> exact ⟨⟨g1,g2,g3⟩,g4⟩
  obtain ⟨x,h3,h4⟩:=zld lo hi n (fun l h=>0≤l∧l≤h∧h≤(n:Int)) (fun l h=>.slice (some ⟨b,o+l.toNat*sz,none⟩) (h.toNat-l.toNat) (h.toNat-l.toNat+1)) K h2'
  refine ⟨x,h3,zt7 hle h1,?_⟩
  rcases zbV h4 with ⟨e1,h2⟩|⟨k,l,e1,h2⟩ <;> rcases zbT h2 with ⟨e2,h3⟩|⟨k',hh,e2,h3⟩ <;> subst e1 <;> subst e2 <;> obtain ⟨⟨g1,g2,g3⟩,g4⟩:=h3 <;> exact ⟨g1,g2,g3,g4⟩
 ·rename_i n c
  have h2':loOf lo fun l=>hiOf hi n fun h=>(l=0∧h=0∧n=0∧c=0)∧K (.slice none 0 0):=by
   rcases zbV h with ⟨e1,h2⟩|⟨k,l,e1,h2⟩ <;> rcases zbT h2 with ⟨e2,h3⟩|⟨k',hh,e2,h3⟩ <;> subst e1 <;> subst e2 <;> obtain ⟨g1,g2,g3,g5,g4⟩:=h3 <;> exact ⟨⟨g1,g2,g3,g5⟩,g4⟩
  obtain ⟨x,h3,h4⟩:=zld lo hi n (fun l h=>l=0∧h=0∧n=0∧c=0) (fun l h=>.slice none 0 0) K h2'
  refine ⟨x,h3,?_⟩
  rcases zbV h4 with ⟨e1,h2⟩|⟨k,l,e1,h2⟩ <;> rcases zbT h2 with ⟨e2,h3⟩|⟨k',hh,e2,h3⟩ <;> subst e1 <;> subst e2 <;> obtain ⟨⟨g1,g2,g3,g5⟩,g4⟩:=h3 <;> exact ⟨g1,g2,g3,g5,g4⟩
 ·exact h.elim
theorem zfa (place:Nat→Option (Nat × TypeId)):∀ {parts:List (Nat × Value)} {cs:List Value} {K K':List Value→Prop},fillK T place parts cs K→(∀ x,K x→K' x)→fillK T place parts cs K'
 | [],cs,K,K',h,hk=>hk _ h
 | (i,v)::rest,cs,K,K',h,hk=>by
  unfold fillK at h ⊢
  split at h
  ·split at h
   ·rcases zat h with ⟨hb,h⟩|⟨_,h⟩
    ·refine zbF hb (zcY h fun vs h=>?_)
     rcases zat h with ⟨hb,h⟩|⟨_,h⟩
     ·exact zbF hb (zfa place h hk)
     ·exact h.elim
    ·exact h.elim
   ·exact h.elim
  ·exact h.elim
theorem zyS (hle:H.le H') (op:Op):One (aRd T op ev H) (aRd T op ev H'):=by
 intro K h
 cases op
 case move x=>exact ⟨_,h,rfl⟩
 case assign x=>exact ⟨_,h,rfl⟩
 case pick c x y=>
  obtain ⟨b,hb,h⟩:=zc9 h
  simp only [aRd,hb]
  rcases zat h with ⟨rfl,h⟩|⟨rfl,h⟩
  ·exact ⟨_,h,rfl⟩
  ·exact ⟨_,h,rfl⟩
 case load t p=>
  obtain ⟨b,o,hb,h⟩:=zbS h
  simp only [aRd,hb]
  exact zzr hle t b o K h
 case nilCheck x=>
  simp only [aRd,nilK] at h ⊢
  split at h
  ·exact ⟨_,h,rfl⟩
  ·exact ⟨_,h,rfl⟩
  ·exact h.elim
 case binOp op t x y u=>
  cases y with
  | const v=>
   simp only [aRd] at h ⊢
   exact One.pif2 _ (zqF _ _ _) (zhU _ _ _ _) K h
  | tmp t=>exact zhU _ _ _ _ K h
  | global g=>exact zhU _ _ _ _ K h
  | func f=>exact zhU _ _ _ _ K h
 case unOp op t x=>exact zy5 _ _ K h
 case convert s d x=>
  rcases zat h with ⟨hs,h⟩|⟨_,h⟩
  ·obtain ⟨v,h1,h2⟩:=zty _ _ K h
   exact ⟨v,h1,zbF hs h2⟩
  ·exact h.elim
 case makeFunc fn xs ys=>
  cases fn <;> first|exact h.elim|exact ⟨_,h,rfl⟩
 case fieldAddr s x f=>
  simp only [aRd] at h ⊢
  split at h
  ·split at h
   ·split at h
    ·rcases zat h with ⟨hz,h⟩|⟨_,h⟩
     ·obtain ⟨b,o,hb,h⟩:=zbS h
      rw [hb]
      exact ⟨_,h,zbF hz rfl⟩
     ·exact h.elim
    ·exact h.elim
   ·exact h.elim
  ·exact h.elim
 case field t x f=>
  simp only [aRd] at h ⊢
  split at h
  ·split at h
   ·obtain ⟨l,hl,h⟩:=zbD h
    rw [hl]
    exact ziU _ _ _ K h
   ·exact h.elim
  ·exact h.elim
 case indexAddr t x i=>
  simp only [aRd] at h ⊢
  split at h
  ·split at h
   ·exact zwf _ _ _ K h
   ·exact h.elim
  ·split at h
   ·obtain ⟨b,o,hb,h⟩:=zbS h
    obtain ⟨h0,h1,h⟩:=zaR.1 h
    rw [hb]
    exact ⟨_,h,zaR.2 ⟨h0,h1,rfl⟩⟩
   ·exact h.elim
  ·exact h.elim
 case index t x i=>
  simp only [aRd] at h ⊢
  split at h
  ·split at h
   ·obtain ⟨l,hl,h⟩:=zbD h
    obtain ⟨h0,h1,h⟩:=zaR.1 h
    rw [hl]
    obtain ⟨v,h2,h3⟩:=ziU _ _ _ _ h
    obtain ⟨u,h4,h5⟩:=zgT _ _ _ h2
    refine ⟨u,h4,zaR.2 ⟨h0,h1,?_⟩⟩
    obtain ⟨v',h6,h7⟩:=ziU (T:=T) _ _ _ _ h3
    subst h6
    exact zrG h7 (fun x hx=>by subst hx;exact h5)
   ·exact h.elim
  ·split at h
   ·obtain ⟨h0,h1,h⟩:=zaR.1 h
    exact ⟨_,h,zaR.2 ⟨h0,h1,rfl⟩⟩
   ·exact h.elim
  ·exact h.elim
 case build t parts=>
  simp only [aRd] at h ⊢
  split at h
  ·rcases zat h with ⟨hf,h⟩|⟨_,h⟩
   ·obtain ⟨zs,hz,h⟩:=zbD h
    rw [hz]
    rcases zat h with ⟨hzs,h⟩|⟨_,h⟩
    ·obtain ⟨l,h1,h2⟩:=zmo _ _ _ _ h
     exact ⟨_,h1,zbF hf (zbF hzs (zfa _ h2 fun x hx=>by rw [hx]))⟩
    ·exact h.elim
   ·exact h.elim
  ·exact h.elim
 case slice t x lo hi mx=>
  cases mx with
  | some m=>
   cases lo with
   | some l=>cases hi <;> exact h.elim
   | none=>
   cases hi with
   | none=>exact h.elim
   | some u=>
   simp only [aRd] at h ⊢
   split at h
   ·split at h
    ·unfold clipK at h ⊢
     split at h
     ·exact ⟨_,h,rfl⟩
     ·exact ⟨_,h,rfl⟩
     ·exact h.elim
    ·exact h.elim
   ·exact h.elim
  | none=>
   simp only [aRd] at h ⊢
   split at h
   ·split at h
    ·rcases zat h with ⟨hz,h⟩|⟨_,h⟩
     ·obtain ⟨v,h1,h2⟩:=zre hle _ _ _ _ _ K h
      exact ⟨v,h1,zbF hz h2⟩
     ·exact h.elim
    ·exact h.elim
   ·split at h
    ·rename_i s _
     have h2':loOf (lo.map ev) fun l=>hiOf (hi.map ev) s.size fun h=>(0≤l∧l≤h∧h≤(s.size:Int))∧K (.string (s.extract l.toNat h.toNat)):=by
      rcases zbV h with ⟨e1,h2⟩|⟨k,l,e1,h2⟩ <;> rcases zbT h2 with ⟨e2,h3⟩|⟨k',hh,e2,h3⟩ <;> rw [e1,e2] <;> obtain ⟨g1,g2,g3,g4⟩:=h3 <;> exact ⟨⟨g1,g2,g3⟩,g4⟩
     obtain ⟨v,h3,h4⟩:=zld (lo.map ev) (hi.map ev) s.size (fun l h=>0≤l∧l≤h∧h≤(s.size:Int)) (fun l h=>.string (s.extract l.toNat h.toNat)) K h2'
     refine ⟨v,h3,?_⟩
     rcases zbV h4 with ⟨e1,h2⟩|⟨k,l,e1,h2⟩ <;> rcases zbT h2 with ⟨e2,h3⟩|⟨k',hh,e2,h3⟩ <;> rw [e1,e2] <;> obtain ⟨⟨g1,g2,g3⟩,g4⟩:=h3 <;> exact ⟨g1,g2,g3,g4⟩
    ·exact h.elim
   ·split at h
    ·obtain ⟨b,o,hb,h⟩:=zbS h
     rw [hb]
     exact ⟨_,h,rfl⟩
    ·exact h.elim
   ·exact h.elim
 case extract x ix=>
  obtain ⟨l,hl,h⟩:=zdQ h
  simp only [aRd,hl]
  split at h
  ·rename_i e
   exact ⟨_,h,by simp [asTup,e]⟩
  ·exact h.elim
 all_goals exact h.elim
theorem zor {o:Oper} (he:isEff o=false) (hle:H.le H') {K:Value→AHeap→Prop} (h:aOp P T o ev H K):∃ v,K v H∧aOp P T o ev H' (fun u G=>u=v∧G=H'):=by
 have rd:aRd T o.op ev H (fun v=>K v H)→∃ v,K v H∧aRd T o.op ev H' (fun u=>u=v∧H'=H'):=fun h=>by
  obtain ⟨v,h1,h2⟩:=zyS hle o.op _ h
  exact ⟨v,h1,by simpa using h2⟩
 obtain ⟨dst,op,type,pos,after,guard⟩:=o
 cases op
 case call c=>
  simp only [isEff] at he
  simp only [aOp] at h ⊢
  split at h
  ·rename_i hc;simp [hc] at he
  ·rename_i hc
   split at h
   ·split at h
    ·obtain ⟨a,n,cp,hv,h⟩:=zjj h
     refine ⟨_,h,?_⟩
     simp [hv,lenK]
    ·obtain ⟨s,hv,h⟩:=zdA h
     refine ⟨_,h,?_⟩
     simp [hv,asS]
    ·exact ⟨_,h,by simp⟩
    ·unfold mlenK at h ⊢
     split at h
     ·exact ⟨_,h,by simp⟩
     ·obtain ⟨es,cl,hb,h⟩:=h
      exact ⟨_,h,es,cl,hle.2 _ _ hb,by simp⟩
     ·exact h.elim
    ·exact h.elim
   ·exact h.elim
  ·rename_i hc;simp [hc] at he
  ·rename_i hc;simp [hc] at he
  ·rename_i hc;simp [hc] at he
  ·rename_i hc
   unfold bltK at h ⊢
   split at h
   ·obtain ⟨a,n,cp,hv,h⟩:=zjj h
    refine ⟨_,h,?_⟩
    simp [hv,lenK]
   ·rcases zat h with ⟨hb,h⟩|⟨_,h⟩
    ·exact ⟨_,h,zbF hb (by simp)⟩
    ·exact h.elim
   ·rcases zat h with ⟨hb,h⟩|⟨_,h⟩
    ·exact ⟨_,h,zbF hb (by simp)⟩
    ·exact h.elim
   ·exact h.elim
  ·rename_i hc;simp [hc] at he
  ·exact h.elim
 case convert s d x=>
  simp only [aOp] at h ⊢
  split at h
  ·split at h
   ·obtain ⟨ns,hc,hk⟩:=h
    refine ⟨_,hk,ns,?_,by simp⟩
    obtain ⟨h1,a,c,h2,h3⟩:=hc
    refine ⟨h1,a,c,h2,h3.imp id ?_⟩
    rintro ⟨b,o,h4,h5⟩
    exact ⟨b,o,h4,fun i u hu=>AHeap.cell_le hle (h5 i u hu)⟩
   ·exact h.elim
  ·obtain ⟨v,h1,h2⟩:=rd h
   exact ⟨v,h1,by simpa using h2⟩
 all_goals first|(simp [isEff] at he;done)|exact rd h
end
end Go.Abs
/- A region whose order is drawn: one walk, in an order in which what only reads comes as early as it may. -/
namespace Go.Abs
open Go.RowKit

def leK (need:Bool) (H H':AHeap) (X:Prop):Prop:=pif need (H.le H'∧X) X
def aOpsD (P:Program) (T:TT) (all:List Oper):List (Oper × Bool)→Env→AHeap→(Env→AHeap→Prop)→Prop
 | [],env,H,K=>K env H
 | (o,need)::rest,env,H,K=>pif (o.op.operands.toList.all (operandOK P.globals.size)) (guardK all o env fun env b=>
  pif b (aOp P T o (aev env) H fun v H'=>leK need H H' (aOpsD P T all rest (Env.put env o.dst v) H' K)) (aOpsD P T all rest (Env.put env o.dst undef) H K)) False
def predsOf (o:Oper):List Nat:=(o.after.toList.filter (Region.binds .any ·)).map (·.on)
def maskStep (acc:List Nat) (o:Oper):Nat:=(predsOf o).foldl (fun s j=>s|||2^j|||acc.getD j 0) 0
def masks:List Oper→List Nat→List Nat
 | [],acc=>acc
 | o::os,acc=>masks os (acc++[maskStep acc o])
def bef (ms:List Nat) (i j:Nat):Bool:=(ms.getD j 0).testBit i
def autoLe (o:Oper):Bool:=
 match o.op with
 | .alloc _|.box _ _|.buildSlice _ _ _|.makeSlice _ _ _=>true
 | _=>false
def mapT (T:TT) (t:TypeId):Bool:=
 match T t with
 | some ⟨.map _ _,_,_,_⟩=>true
 | _=>false
def heapRd (T:TT) (o:Oper):Bool:=
 match o.op with
 | .load _ _|.slice _ _ _ _ _=>true
 | .convert s _ _=>isBytes T s
 | .call c=>match c.callee with
  | .builtin .len=>match c.argTypes.toList with
   | [t]=>mapT T t
   | _=>false
  | _=>false
 | _=>false
def looks (all:List Oper) (o:Oper):List Tmp:=(o.op.operands.toList.filterMap fun|.tmp t=>some t|_=>none)++(guardTmp all o).toList
def opAt (l:List Oper) (i:Nat):Oper:=l.getD i default
def chk (T:TT) (l:List Oper) (ms:List Nat):List Nat→List (Nat × Bool)→Bool
 | _,[]=>true
 | done,(x,need)::rest=>
  (predsOf (opAt l x)).all (done.contains ·) &&
  (!isEff (opAt l x)||(rest.all fun y=>(predsOf (opAt l y.1)).any fun p=>!done.contains p)) &&
  (!isEff (opAt l x)||need||autoLe (opAt l x)||done.all fun y=>!heapRd T (opAt l y)||bef ms y x) &&
  (isEff (opAt l x)||!need) &&
  chk T l ms (done++[x]) rest
def nodupB:List Nat→Bool
 | []=>true
 | x::xs=>!xs.contains x&&nodupB xs
theorem zcX:∀ {s:List Nat},nodupB s=true→s.Nodup
 | [],_=>List.nodup_nil
 | x::xs,h=>by
  simp only [nodupB,Bool.and_eq_true,Bool.not_eq_true'] at h
  refine List.nodup_cons.2 ⟨?_,zcX h.2⟩
  intro hx
  have h3:xs.contains x=true:=by simpa using hx
  rw [h.1] at h3
  exact Bool.noConfusion h3
def drawOK (T:TT) (l:List Oper) (τ:List (Nat × Bool)):Bool:=
 let n:=l.length
 let ms:=masks l []
 decide (τ.length=n)&&(List.range n).all (fun i=>(τ.map (·.1)).contains i)&&τ.all (fun x=>x.1<n) &&
 ((List.range n).all fun j=>(predsOf (opAt l j)).all (· < j)) &&
 ((List.range n).all fun i=>match (opAt l i).dst with
  | none=>true
  | some t=>(List.range n).all fun j=>i==j||(((opAt l j).dst != some t)&&(!(looks l (opAt l j)).contains t||bef ms i j||bef ms j i))) &&
 nodupB (τ.map (·.1)) &&
 chk T l ms [] τ
section
variable {P:Program} {T:TT} {w0 w:World} {ρ:Loc} {H:AHeap} {env:Env} {a:Act}

theorem zkD (acc:List Nat):∀ (ps:List Nat) (s i:Nat),(ps.foldl (fun s j=>s|||2^j|||acc.getD j 0) s).testBit i=true→s.testBit i=true∨∃ p∈ps,i=p∨(acc.getD p 0).testBit i=true
 | [],s,i,h=>.inl h
 | p::ps,s,i,h=>by
  rcases zkD acc ps _ i h with h|⟨q,hq,h⟩
  ·simp only [Nat.testBit_or,Bool.or_eq_true] at h
   rcases h with (h|h)|h
   ·exact .inl h
   ·rw [Nat.testBit_two_pow] at h
    exact .inr ⟨p,by simp,.inl ((by simpa using h:p=i).symm)⟩
   ·exact .inr ⟨p,by simp,.inr h⟩
  ·exact .inr ⟨q,by simp [hq],h⟩
theorem zhv (D:Nat→Prop) (l0:List Oper) (hD:∀ j,D j→∀ p∈predsOf (opAt l0 j),D p):∀ (os:List Oper) (acc:List Nat),(∀ k,k<os.length→opAt l0 (acc.length+k)=os.getD k default)→
 (∀ j i,D j→(acc.getD j 0).testBit i=true→D i)→∀ j i,D j→((masks os acc).getD j 0).testBit i=true→D i
 | [],acc,_,h,j,i,hj,hb=>h j i hj hb
 | o::os,acc,hl,h,j,i,hj,hb=>by
  refine zhv D l0 hD os (acc++[maskStep acc o]) ?_ ?_ j i hj hb
  ·intro k hk
   have:=hl (k+1) (by simpa using hk)
   simp at this ⊢
   rw [← this];congr 1;omega
  ·intro j i hj hb
   by_cases h1:j<acc.length
   ·refine h j i hj ?_
    simpa [List.getD,List.getElem?_append_left h1] using hb
   ·by_cases h2:j=acc.length
    ·subst h2
     have ho:=hl 0 (by simp)
     simp at ho
     have hb':(maskStep acc o).testBit i=true:=by simpa [List.getD] using hb
     rcases zkD acc _ _ _ hb' with h0|⟨p,hp,rfl|hp2⟩
     ·simp at h0
     ·exact hD _ hj i (by rw [ho];exact hp)
     ·exact h p i (hD _ hj p (by rw [ho];exact hp)) hp2
    ·have:(acc++[maskStep acc o]).getD j 0=0:=by
      simp [List.getD,List.getElem?_eq_none (show (acc++[maskStep acc o]).length≤j by simp;omega)]
     rw [this] at hb;simp at hb
theorem zbd (D:Nat→Prop) (l:List Oper) (hD:∀ j,D j→∀ p∈predsOf (opAt l j),D p) {i j:Nat} (hj:D j) (hb:bef (masks l []) i j=true):D i:=
 zhv D l hD l [] (by intro k hk;simp [opAt]) (by simp) j i hj hb
theorem zrk {o:Oper} (he:isEff o=false) (hh:heapRd T o=false) {ev:Operand→Value} {H':AHeap} {v:Value} (h:aOp P T o ev H (fun u G=>u=v∧G=H)):aOp P T o ev H' (fun u G=>u=v∧G=H'):=by
 obtain ⟨dst,op,type,pos,after,guard⟩:=o
 have e1:∀ (X:Prop),(X∧H=H)=(X∧H'=H'):=fun X=>by simp
 cases op
 case call c=>
  simp only [isEff] at he
  simp only [aOp] at h ⊢
  split at h <;> first|(rename_i hc;simp [hc] at he;done)|skip
  ·rename_i hc
   split at h
   ·rename_i t x ht hx
    split at h <;> first|(simp [e1] at h;done)|(simpa [e1] using h)|exact h.elim|(rename_i hi;simp [heapRd,hc,ht,mapT,hi] at hh;done)
   ·exact h.elim
  ·simpa using h
  ·exact h.elim
 case load t p=>simp [heapRd] at hh
 case convert s d x=>
  simp only [heapRd] at hh
  simp only [aOp,hh,aRd] at h ⊢
  simpa using h
 case makeFunc fn xs ys=>cases fn <;> first|exact h.elim|(simp [aOp,aRd] at h;done)|(simpa [aOp,aRd] using h)
 case slice t x lo hi mx=>simp [heapRd] at hh
 all_goals first|(simp [isEff] at he;done)|(simp [aOp,aRd] at h;done)|(simpa [aOp,aRd] using h)
theorem zp7 {o:Oper} (ha:autoLe o=true) {ev:Operand→Value} {K:Value→AHeap→Prop} (h:aOp P T o ev H K):aOp P T o ev H (fun v H'=>H.le H'∧K v H'):=by
 obtain ⟨dst,op,type,pos,after,guard⟩:=o
 have new:∀ {cs:List Value} {e:TypeId} {K:Nat→AHeap→Prop},newK H cs e K→newK H cs e (fun b H'=>H.le H'∧K b H'):=by
  intro cs e K h
  rcases zat h with ⟨h1,h⟩|⟨_,h⟩
  ·exact zbF h1 ⟨AHeap.le_append _ _,h⟩
  ·exact h.elim
 have zero:∀ {i:TI} {K K':List Value→Prop},zeroK i K→(∀ x,K x→K' x)→zeroK i K':=by
  intro i K K' h hk
  unfold zeroK at h ⊢
  split at h
  ·rename_i hz
   rcases zat h with ⟨h1,h⟩|⟨_,h⟩
   ·exact zbF h1 (hk _ h)
   ·exact h.elim
  ·rename_i hz
   rcases zat h with ⟨h1,h⟩|⟨_,h⟩
   ·exact zbF h1 (hk _ h)
   ·exact h.elim
 cases op <;> first|(simp [autoLe] at ha;done)|skip
 case alloc e=>
  simp only [aOp,aEf] at h ⊢
  split at h
  ·exact zero h fun cs h=>new h
  ·exact h.elim
 case box e x=>
  simp only [aOp,aEf] at h ⊢
  split at h
  ·exact zcY h fun cs h=>new h
  ·exact h.elim
 case buildSlice t len parts=>
  simp only [aOp,aEf] at h ⊢
  split at h
  ·split at h
   ·rcases zat h with ⟨h1,h⟩|⟨_,h⟩
    ·exact zbF h1 (zero h fun zs h=>zfa _ h fun cs h=>new h)
    ·exact h.elim
   ·exact h.elim
  ·exact h.elim
 case makeSlice t l c=>
  simp only [aOp,aEf] at h ⊢
  split at h
  ·unfold mkK at h ⊢
   split at h
   ·obtain ⟨h0,h1,h2,h3,h⟩:=h
    exact ⟨h0,h1,h2,h3,zero h fun zs h=>⟨AHeap.le_append _ _,h⟩⟩
   ·exact h.elim
  ·exact h.elim
end
end Go.Abs
/- A region whose order is drawn: the proof. -/
namespace Go.Abs
open Go.RowKit

structure Pend where
 i:Nat
 E:Env
 v:Value
section
variable {P:Program} {T:TT} {w0 w:World} {ρ:Loc} {H:AHeap} {env:Env} {a:Act}

def PF (P:Program) (T:TT) (l:List Oper) (o:Oper) (E:Env) (v:Value) (H:AHeap):Prop:=
 (∀ x∈o.op.operands,operandOK P.globals.size x=true)∧guardK l o E fun E' b=>E'=E∧pif b (aOp P T o (aev E) H fun u G=>u=v∧G=H) (v=undef)
structure SInv (P:Program) (T:TT) (l:List Oper) (w0:World) (listed:Array Bool) (done todo:List Nat) (pend:List Pend) (env:Env) (H:AHeap) (ρ:Loc) (a:Act) (w:World):Prop where
 all:∀ i,i<l.length→i∈done∨i∈todo
 apart:∀ i,i∈done→i∉todo
 lt:∀ i,i∈done∨i∈todo→i<l.length
 ndT:todo.Nodup
 ndP:(pend.map (·.i)).Nodup
 size:listed.size=l.length
 exec:∀ i,i<l.length→(listed[i]?=some true↔i∈done∧∀ p∈pend,p.i≠i)
 down:∀ j,listed[j]?=some true→∀ p∈predsOf (opAt l j),listed[p]?=some true
 downD:∀ j,j∈done→∀ p∈predsOf (opAt l j),p∈done
 len:env.length=a.tmps.size
 defers:a.defers=[]
 fit:∀ t,(∀ p∈pend,(opAt l p.i).dst≠some t)→FitAt ρ env a t
 rel:Rel T P.globals.size w0 ρ H w
 pin:∀ p∈pend,p.i∈done
 peff:∀ p∈pend,isEff (opAt l p.i)=false
 pval:∀ p∈pend,∀ t,(opAt l p.i).dst=some t→t<env.length→env[t]?=some p.v
 plen:∀ p∈pend,p.E.length=env.length
 pf:∀ p∈pend,PF P T l (opAt l p.i) p.E p.v H
 pops:∀ p∈pend,∀ t∈looks l (opAt l p.i),(FitAt ρ p.E a t∧∀ r∈pend,r.i≠p.i→(opAt l r.i).dst=some t→bef (masks l []) r.i p.i=false)∨∃ q∈pend,q.i≠p.i∧(opAt l q.i).dst=some t∧bef (masks l []) q.i p.i=true∧(t<env.length→p.E[t]?=some q.v)
theorem znw {f:Pend→Nat}:∀ {l:List Pend},(l.map f).Nodup→∀ {p q:Pend},p∈l→q∈l→f p=f q→p=q
 | [],_,_,_,h,_,_=>by cases h
 | x::l,hn,p,q,hp,hq,e=>by
  rw [List.map_cons,List.nodup_cons] at hn
  rcases List.mem_cons.1 hp with h1|h1 <;> rcases List.mem_cons.1 hq with h2|h2
  ·rw [h1,h2]
  ·exact absurd (List.mem_map.2 ⟨q,h2,by rw [← e,h1]⟩) hn.1
  ·exact absurd (List.mem_map.2 ⟨p,h1,by rw [e,h2]⟩) hn.1
  ·exact znw hn.2 h1 h2 e
theorem zg9 {i:Nat}:∀ {l:List Pend},(l.map (·.i)).Nodup→∀ {p:Pend},p∈l→(l.filter (·.i != p.i)).length+1=l.length
 | [],_,_,h=>by cases h
 | x::l,hn,p,hp=>by
  rw [List.map_cons,List.nodup_cons] at hn
  rcases List.mem_cons.1 hp with h1|hp'
  ·have:l.filter (·.i != p.i)=l:=by
    rw [List.filter_eq_self]
    intro q hq
    simp only [bne_iff_ne]
    intro e
    exact hn.1 (List.mem_map.2 ⟨q,hq,by rw [e,h1]⟩)
   simp only [List.filter_cons,← h1,bne_self_eq_false,Bool.false_eq_true,if_false,this,List.length_cons]
  ·have:(x.i != p.i)=true:=by
    simp only [bne_iff_ne]
    intro e
    exact hn.1 (List.mem_map.2 ⟨p,hp',e.symm⟩)
   simp only [List.filter_cons,this,if_true,List.length_cons,zg9 (i:=i) hn.2 hp']
theorem zwL {b o:Nat} {cs:List Value} {K K':AHeap→Prop} (h:stK H b o cs K) (hk:∀ x,K x→K' x):stK H b o cs K':=by
 unfold stK at h ⊢
 split at h
 ·exact ⟨h.1,h.2.1,hk _ h.2.2⟩
 ·exact h.elim
theorem zh7 {cs:List Value} {e:TypeId} {K K':Nat→AHeap→Prop} (h:newK H cs e K) (hk:∀ b x,K b x→K' b x):newK H cs e K':=by
 rcases zat h with ⟨h1,h⟩|⟨_,h⟩
 ·exact zbF h1 (hk _ _ h)
 ·exact h.elim
theorem zdT {i:TI} {K K':List Value→Prop} (h:zeroK i K) (hk:∀ x,K x→K' x):zeroK i K':=by
 unfold zeroK at h ⊢
 split at h
 ·rcases zat h with ⟨h1,h⟩|⟨_,h⟩
  ·exact zbF h1 (hk _ h)
  ·exact h.elim
 ·rcases zat h with ⟨h1,h⟩|⟨_,h⟩
  ·exact zbF h1 (hk _ h)
  ·exact h.elim
theorem zby {z v:Value} {K K':Value→Prop} (h:shapeC z v K) (hk:∀ x,K x→K' x):shapeC z v K':=by
 unfold shapeC at h ⊢
 split at h
 ·split at h
  ·obtain ⟨a,rfl,h2⟩:=zmk h;exact za9 h2 fun a h=>hk _ h
  ·obtain ⟨a,b,rfl,h2⟩:=zmA h;exact za9 h2 fun a h=>za9 h fun b h=>hk _ h
  ·obtain ⟨a,b,c,rfl,h2⟩:=zl2 h;exact za9 h2 fun a h=>za9 h fun b h=>za9 h fun c h=>hk _ h
  ·obtain ⟨a,b,c,d,rfl,h2⟩:=zl8 h;exact za9 h2 fun a h=>za9 h fun b h=>za9 h fun c h=>za9 h fun d h=>hk _ h
  ·exact h.elim
 ·exact za9 h hk
theorem zip {z v:Value} {K K':Value→Prop} (h:shapeR z v K) (hk:∀ x,K x→K' x):shapeR z v K':=by
 unfold shapeR at h ⊢
 split at h
 ·split at h
  ·exact zqD h fun vs h=>hk _ h
  ·obtain ⟨a,b,rfl,h2⟩:=znJ h;exact zby h2 fun a h=>zby h fun b h=>hk _ h
  ·obtain ⟨a,b,c,rfl,h2⟩:=znB h;exact zby h2 fun a h=>zby h fun b h=>zby h fun c h=>hk _ h
  ·obtain ⟨a,b,c,d,rfl,h2⟩:=zlS h;exact zby h2 fun a h=>zby h fun b h=>zby h fun c h=>zby h fun d h=>hk _ h
  ·exact h.elim
 ·exact zby h hk
theorem zwH {e:TypeId} {s x:Value} {K K':Value→AHeap→Prop} (h:apK T e H s x K) (hk:∀ v G,K v G→K' v G):apK T e H s x K':=by
 unfold apK at h ⊢
 split at h
 ·obtain ⟨m,xs,h1,h2⟩:=h
  rcases h2 with ⟨h2,h3,h4⟩|⟨h2,n,ss,H',h3,h4,h5,h6,h7,h8⟩
  ·exact ⟨m,xs,h1,.inl ⟨h2,h3,hk _ _ h4⟩⟩
  ·exact ⟨m,xs,h1,.inr ⟨h2,n,ss,H',h3,h4,h5,h6,h7,hk _ _ h8⟩⟩
 ·exact h.elim
theorem zvH {e:TypeId} {s x:Value} {K K':Nat→AHeap→Prop} (h:cpK T e H s x K) (hk:∀ v G,K v G→K' v G):cpK T e H s x K':=by
 unfold cpK at h ⊢
 split at h
 ·rcases h with ⟨a,m,c,a2,n,c2,h1,h2,h3,h4⟩|⟨sb,so,m,c,b,o,n,c2,old,xs,h1,h2,h3,h4,h5,h6,h7,h8⟩
  ·exact .inl ⟨a,m,c,a2,n,c2,h1,h2,h3,hk _ _ h4⟩
  ·exact .inr ⟨sb,so,m,c,b,o,n,c2,old,xs,h1,h2,h3,h4,h5,h6,h7,hk _ _ h8⟩
 ·exact h.elim
theorem zgs {o:Oper} (he:isEff o=true) {ev:Operand→Value} {K K':Value→AHeap→Prop} (h:aOp P T o ev H K) (hk:∀ v G,K v G→K' v G):aOp P T o ev H K':=by
 obtain ⟨dst,op,type,pos,after,guard⟩:=o
 cases op <;> first|(simp [isEff] at he;done)|skip
 case alloc e=>
  simp only [aOp,aEf] at h ⊢
  split at h
  ·exact zdT h fun cs h=>zh7 h fun b G h=>hk _ _ h
  ·exact h.elim
 case box e x=>
  simp only [aOp,aEf] at h ⊢
  split at h
  ·exact zcY h fun cs h=>zh7 h fun b G h=>hk _ _ h
  ·exact h.elim
 case buildSlice t len parts=>
  simp only [aOp,aEf] at h ⊢
  split at h
  ·split at h
   ·rcases zat h with ⟨h1,h⟩|⟨_,h⟩
    ·exact zbF h1 (zdT h fun zs h=>zfa _ h fun cs h=>zh7 h fun b G h=>hk _ _ h)
    ·exact h.elim
   ·exact h.elim
  ·exact h.elim
 case makeSlice t l c=>
  simp only [aOp,aEf] at h ⊢
  split at h
  ·unfold mkK at h ⊢
   split at h
   ·obtain ⟨h0,h1,h2,h3,h⟩:=h
    exact ⟨h0,h1,h2,h3,zdT h fun zs h=>hk _ _ h⟩
   ·exact h.elim
  ·exact h.elim
 case store t p x=>
  simp only [aOp,aEf] at h ⊢
  split at h
  ·refine zcY h fun cs h=>?_
   rcases zat h with ⟨h1,h⟩|⟨_,h⟩
   ·exact zbF h1 (zv7 h fun b o h=>zwL h fun G h=>hk _ _ h)
   ·exact h.elim
  ·exact h.elim
 case makeMap t r=>
  cases r with
  | none=>simp only [aOp] at h ⊢;exact hk _ _ h
  | some r=>exact h.elim
 case mapUpdate t m k x=>
  simp only [aOp] at h ⊢
  split at h
  ·obtain ⟨b,es,cl,q1,q2,q3,q4,q5,q6,q7,h1,h2⟩:=h
   exact ⟨b,es,cl,q1,q2,q3,q4,q5,q6,q7,fun hn=>hk _ _ (h1 hn),fun j e hj he=>hk _ _ (h2 j e hj he)⟩
  ·exact h.elim
 case insert t m k x=>
  simp only [aOp] at h ⊢
  split at h
  ·obtain ⟨b,es,cl,q1,q2,q3,q4,q5,q6,q7,h1,h2⟩:=h
   exact ⟨b,es,cl,q1,q2,q3,q4,q5,q6,q7,fun hn=>hk _ _ (h1 hn),fun j e hj he=>hk _ _ (h2 j e hj he)⟩
  ·exact h.elim
 case lookup t m k ok=>
  simp only [aOp] at h ⊢
  split at h
  ·split at h
   ·obtain ⟨b,es,cl,q1,q2,q3,q4,q5,q6,q7,h1,h2⟩:=h
    have sh:∀ {v:Value},(match T type with|some ti=>shapeR ti.zero v fun v=>K v H|none=>False)→(match T type with|some ti=>shapeR ti.zero v fun v=>K' v H|none=>False):=by
     intro v h
     split at h
     ·exact zip h fun v h=>hk _ _ h
     ·exact h.elim
    exact ⟨b,es,cl,q1,q2,q3,q4,q5,q6,q7,fun hn=>sh (h1 hn),fun j e hj he=>⟨(h2 j e hj he).1,sh (h2 j e hj he).2⟩⟩
   ·exact h.elim
  ·exact h.elim
 case call c=>
  simp only [isEff] at he
  simp only [aOp] at h ⊢
  split at h
  ·split at h
   ·split at h
    ·exact zwH h hk
    ·obtain ⟨ti,k,n,h1,h2,h3,h4,h5,h6,h7,h8,h9⟩:=h
     exact ⟨ti,k,n,h1,h2,h3,h4,h5,h6,h7,h8,zdT h9 fun zs h=>hk _ _ h⟩
    ·exact h.elim
   ·exact h.elim
  ·rename_i hc;simp [hc] at he
  ·split at h
   ·split at h
    ·exact zvH h fun _ _=>hk _ _
    ·exact h.elim
   ·exact h.elim
  ·split at h
   ·split at h
    ·unfold capK at h ⊢
     split at h
     ·exact hk _ _ h
     ·exact h.elim
    ·exact h.elim
   ·exact h.elim
  ·split at h
   ·split at h
    ·unfold clrK at h ⊢
     split at h
     ·rcases h with ⟨a,c,h1,h2⟩|⟨b,o,n,c,old,h1,h2,h3,h4,h5⟩
      ·exact .inl ⟨a,c,h1,hk _ _ h2⟩
      ·exact .inr ⟨b,o,n,c,old,h1,h2,h3,h4,zdT h5 fun zs h=>hk _ _ h⟩
     ·exact h.elim
    ·exact h.elim
   ·exact h.elim
  ·rename_i b hb1 hb2 hb3 hb4 hb5 hc
   rw [hc] at he
   cases b <;> first|(simp at he;done)|(simp [bltK] at h;done)|exact absurd rfl hb1|exact absurd rfl hb2|exact absurd rfl hb3|exact absurd rfl hb4|exact absurd rfl hb5
  ·unfold callV at h ⊢
   split at h
   ·refine h.mono fun v G h=>?_
    split at h
    ·exact zip h fun v h=>hk _ _ h
    ·exact h.elim
   ·exact h.elim
  ·exact h.elim
theorem zfx {l:List Oper} {o:Oper} {E:Env} {K:Env→Bool→Prop} (h:guardK l o E K):∃ b,K E b∧∀ K':Env→Bool→Prop,K' E b→guardK l o E K':=by
 unfold guardK at h ⊢
 split at h
 ·exact ⟨true,h,fun _ k=>k⟩
 ·split at h
  ·exact ⟨false,h,fun _ k=>k⟩
  ·split at h
   ·rename_i hb
    rcases zat h with ⟨rfl,h⟩|⟨rfl,h⟩
    ·rw [zdt hb] at h
     exact ⟨_,h,fun K' k=>by show K' _ _;rw [zdt hb];exact k⟩
    ·rw [zdt hb] at h
     exact ⟨_,h,fun K' k=>by show K' _ _;rw [zdt hb];exact k⟩
   ·exact ⟨false,h,fun _ k=>k⟩
   ·exact h.elim
theorem PF.le {l:List Oper} {o:Oper} {E:Env} {v:Value} {H':AHeap} (he:isEff o=false) (h:PF P T l o E v H) (hh:H.le H'∨heapRd T o=false):PF P T l o E v H':=by
 obtain ⟨h1,h2⟩:=h
 obtain ⟨b,⟨_,h3⟩,h4⟩:=zfx h2
 refine ⟨h1,h4 _ ⟨rfl,?_⟩⟩
 rcases zat h3 with ⟨rfl,h3⟩|⟨rfl,h3⟩
 ·rcases hh with hh|hh
  ·obtain ⟨u,⟨rfl,_⟩,h5⟩:=zor he hh h3
   exact h5
  ·exact zrk he hh h3
 ·exact h3
theorem zbY (env:Env) (d:Option Tmp) (v:Value):(Env.put env d v).length=env.length:=by cases d <;> simp [Env.put]
theorem zcL (env:Env) {d:Option Tmp} {t:Tmp} (v:Value) (h:d≠some t):(Env.put env d v)[t]?=env[t]?:=by
 cases d with
 | none=>rfl
 | some d=>simp only [Env.put];rw [List.getElem?_set_ne (by simpa using h)]
theorem zez (env:Env) {t:Tmp} (v:Value) (h:t<env.length):(Env.put env (some t) v)[t]?=some v:=by
 simp [Env.put,h]
theorem zs3 {env env':Env} {t:Nat} (h:env[t]?=env'[t]?):env.getD t undef=env'.getD t undef:=by simp [List.getD,h]
theorem FitAt.put_ne {d:Option Tmp} {t:Nat} {v v':Value} (h:FitAt ρ env a t) (hd:d≠some t):FitAt ρ (env.put d v) (a.put d v') t:=by
 unfold FitAt at *
 rw [zs3 (zcL env v hd)]
 cases d with
 | none=>exact h
 | some d=>
  simp only [Act.put,Array.toList_setIfInBounds]
  have:(a.tmps.toList.set d v')[t]?=a.tmps.toList[t]?:=List.getElem?_set_ne (by simpa using hd)
  simpa [List.getD,this] using h
theorem FitAt.put_same {t:Nat} {v v':Value} (hl:env.length=a.tmps.size) (hv:VR ρ v v') (he:t<env.length→env[t]?=some v):FitAt ρ env (a.put (some t) v') t:=by
 unfold FitAt
 by_cases ht:t<env.length
 ·have:t<a.tmps.size:=by omega
  simp [List.getD,he ht,Act.put,this]
  exact hv
 ·have:¬ t<a.tmps.size:=by omega
  simp [List.getD,Act.put,List.getElem?_eq_none (show env.length≤t by omega),this]
  exact VR.undef ρ
theorem FitAt.act_ne {d:Option Tmp} {t:Nat} {v':Value} (h:FitAt ρ env a t) (hd:d≠some t):FitAt ρ env (a.put d v') t:=by
 unfold FitAt at *
 cases d with
 | none=>exact h
 | some d=>
  simp only [Act.put,Array.toList_setIfInBounds]
  have:(a.tmps.toList.set d v')[t]?=a.tmps.toList[t]?:=List.getElem?_set_ne (by simpa using hd)
  simpa [List.getD,this] using h
theorem FitAt.mono {ρ':Loc} (hle:ρ.le ρ') {t:Nat} (h:FitAt ρ env a t):FitAt ρ' env a t:=VR.mono hle h
theorem zlC (d:Option Tmp) (v:Value):(a.put d v).tmps.size=a.tmps.size:=by cases d <;> simp [Act.put]
theorem zfK (d:Option Tmp) (v:Value):(a.put d v).defers=a.defers:=by cases d <;> rfl
theorem zdb {l:List Oper} {o:Oper} {E:Env} (hg:∀ g,g<P.globals.size→∃ N s,ρ g=some ⟨g,0,N,s⟩) (hok:∀ x∈o.op.operands,operandOK P.globals.size x=true) (h:∀ t∈looks l o,FitAt ρ E a t) :
 ∀ x∈o.op.operands,VR ρ (aev E x) (a.eval x):=by
 intro x hx
 cases x with
 | tmp t=>
  have ht:t∈looks l o:=by
   unfold looks
   refine List.mem_append.2 (.inl (List.mem_filterMap.2 ⟨.tmp t,by simpa using hx,rfl⟩))
  have:=h t ht
  unfold FitAt at this
  simp only [aev,Act.eval]
  rw [show a.tmps.getD t undef=a.tmps.toList.getD t undef by simp [Array.getD,List.getD];split <;> simp_all]
  exact this
 | const v=>exact VR.const (hok _ hx)
 | global g=>
  obtain ⟨N,s,h⟩:=hg g (by simpa [operandOK] using hok _ hx)
  exact .ptr ⟨g,0,none⟩ ⟨g,0,none⟩ _ h rfl rfl
 | func f=>exact .func f [] [] [] [] .nil .nil
structure Told (l:List Oper):Prop where
 preds:∀ j,∀ p∈predsOf (opAt l j),p<j
 tmps:∀ i j t,i<l.length→j<l.length→i≠j→(opAt l i).dst=some t→(opAt l j).dst≠some t∧(t∈looks l (opAt l j)→bef (masks l []) i j=true∨bef (masks l []) j i=true)
theorem zpt {l:List Oper} {ms:List Nat} {done:List Nat} {x:Nat} {need:Bool} {rest:List (Nat × Bool)} (h:chk T l ms done ((x,need)::rest)=true) :
 (∀ p∈predsOf (opAt l x),p∈done)∧(isEff (opAt l x)=true→∀ y∈rest,∃ p∈predsOf (opAt l y.1),p∉done)∧
 (isEff (opAt l x)=true→need=true∨autoLe (opAt l x)=true∨∀ y∈done,heapRd T (opAt l y)=false∨bef ms y x=true)∧(isEff (opAt l x)=false→need=false)∧chk T l ms (done++[x]) rest=true:=by
 simp only [chk,Bool.and_eq_true,List.all_eq_true,Bool.or_eq_true,Bool.not_eq_true',List.any_eq_true,List.contains_iff_mem] at h
 obtain ⟨⟨⟨⟨h1,h2⟩,h3⟩,h4⟩,h5⟩:=h
 refine ⟨h1,fun he y hy=>?_,fun he=>?_,fun he=>?_,h5⟩
 ·rcases h2 with h2|h2
  ·rw [he] at h2;cases h2
  ·obtain ⟨p,hp,hn⟩:=h2 y hy
   exact ⟨p,hp,by simpa using hn⟩
 ·rcases h3 with ((h3|h3)|h3)|h3
  ·rw [he] at h3;cases h3
  ·exact .inl h3
  ·exact .inr (.inl h3)
  ·exact .inr (.inr fun y hy=>by
    rcases h3 y hy with h|h
    ·exact .inl h
    ·exact .inr h)
 ·rcases h4 with h4|h4
  ·rw [he] at h4;cases h4
  ·exact h4
end
end Go.Abs
/- A region whose order is drawn: every order comes to what the one walk says. -/
namespace Go.Abs
open Go.RowKit
section
variable {P:Program} {T:TT} {w0 w:World} {ρ:Loc} {H:AHeap} {env:Env} {a:Act} {l:List Oper} {K:Env→AHeap→Prop}

def opsOf (l:List Oper) (todo:List (Nat × Bool)):List (Oper × Bool):=todo.map fun x=>(opAt l x.1,x.2)
theorem SInv.reckon (tl:Told l) {listed:Array Bool} {done rest:List Nat} {pend:List Pend} {x:Nat} {v:Value} (S:SInv P T l w0 listed done (x::rest) pend env H ρ a w)
 (hp:∀ p∈predsOf (opAt l x),p∈done) (he:isEff (opAt l x)=false) (hpf:PF P T l (opAt l x) env v H) :
 SInv P T l w0 listed (done++[x]) rest (pend++[⟨x,env,v⟩]) (Env.put env (opAt l x).dst v) H ρ a w:=by
 have hx:x<l.length:=S.lt x (.inr (by simp))
 have hxd:x∉done:=fun h=>S.apart x h (by simp)
 have hne:∀ p∈pend,p.i≠x:=fun p hp e=>hxd (e▸S.pin p hp)
 have hnd:=List.nodup_cons.1 S.ndT
 refine ⟨?_,?_,?_,hnd.2,?_,S.size,?_,S.down,?_,?_,S.defers,?_,S.rel,?_,?_,?_,?_,?_,?_⟩
 ·intro i hi
  rcases S.all i hi with h|h
  ·exact .inl (by simp [h])
  ·rcases List.mem_cons.1 h with rfl|h
   ·exact .inl (by simp)
   ·exact .inr h
 ·intro i hi
  rcases List.mem_append.1 hi with h|h
  ·exact fun k=>S.apart i h (by simp [k])
  ·simp at h;subst h;exact hnd.1
 ·intro i hi
  rcases hi with h|h
  ·rcases List.mem_append.1 h with h|h
   ·exact S.lt i (.inl h)
   ·simp at h;subst h;exact hx
  ·exact S.lt i (.inr (by simp [h]))
 ·rw [List.map_append,List.nodup_append]
  refine ⟨S.ndP,by simp,?_⟩
  intro i hi j hj
  simp at hj
  obtain ⟨p,hp,rfl⟩:=List.mem_map.1 hi
  rw [hj];exact hne p hp
 ·intro i hi
  rw [S.exec i hi]
  constructor
  ·rintro ⟨h1,h2⟩
   refine ⟨by simp [h1],fun p hp=>?_⟩
   rcases List.mem_append.1 hp with h|h
   ·exact h2 p h
   ·simp at h;subst h;rintro rfl;exact hxd h1
  ·rintro ⟨h1,h2⟩
   have hxi:x≠i:=h2 ⟨x,env,v⟩ (by simp)
   rcases List.mem_append.1 h1 with h|h
   ·exact ⟨h,fun p hp=>h2 p (by simp [hp])⟩
   ·simp at h;exact absurd h.symm hxi
 ·intro j hj p hpj
  rcases List.mem_append.1 hj with h|h
  ·simp [S.downD j h p hpj]
  ·simp at h;subst h;simp [hp p hpj]
 ·rw [zbY];exact S.len
 ·intro t ht
  have h1:(opAt l x).dst≠some t:=ht ⟨x,env,v⟩ (by simp)
  have h2:=S.fit t fun p hp=>ht p (by simp [hp])
  unfold FitAt at h2 ⊢
  rw [zs3 (zcL env v h1)];exact h2
 ·intro p hp
  rcases List.mem_append.1 hp with h|h
  ·simp [S.pin p h]
  ·simp at h;subst h;simp
 ·intro p hp
  rcases List.mem_append.1 hp with h|h
  ·exact S.peff p h
  ·simp at h;subst h;exact he
 ·intro p hp t ht hlt
  rw [zbY] at hlt
  rcases List.mem_append.1 hp with h|h
  ·have:=(tl.tmps p.i x t (S.lt _ (.inl (S.pin p h))) hx (hne p h) ht).1
   rw [zcL env v this]
   exact S.pval p h t ht hlt
  ·simp at h;subst h
   simp only [] at ht ⊢
   rw [ht];exact zez env v hlt
 ·intro p hp
  rw [zbY]
  rcases List.mem_append.1 hp with h|h
  ·exact S.plen p h
  ·simp at h;subst h;rfl
 ·intro p hp
  rcases List.mem_append.1 hp with h|h
  ·exact S.pf p h
  ·simp at h;subst h;exact hpf
 ·intro p hp t ht
  rcases List.mem_append.1 hp with h|h
  ·rcases S.pops p h t ht with ⟨k,k'⟩|⟨q,k1,k2,k3,k4,k5⟩
   ·refine .inl ⟨k,fun r hr hri hd=>?_⟩
    rcases List.mem_append.1 hr with hr|hr
    ·exact k' r hr hri hd
    ·simp at hr;subst hr
     cases hb:bef (masks l []) x p.i with
     | false=>rfl
     | true=>exact absurd (zbd (·∈done) l S.downD (S.pin p h) hb) hxd
   ·exact .inr ⟨q,by simp [k1],k2,k3,k4,fun hh=>k5 (by rwa [zbY] at hh)⟩
  ·simp at h;subst h
   simp only [] at ht ⊢
   by_cases hq:∃ q∈pend,(opAt l q.i).dst=some t
   ·obtain ⟨q,k1,k2⟩:=hq
    refine .inr ⟨q,by simp [k1],hne q k1,k2,?_,fun hh=>S.pval q k1 t k2 (by rwa [zbY] at hh)⟩
    rcases (tl.tmps q.i x t (S.lt _ (.inl (S.pin q k1))) hx (hne q k1) k2).2 ht with k|k
    ·exact k
    ·exact absurd (zbd (·∈done) l S.downD (S.pin q k1) k) hxd
   ·refine .inl ⟨S.fit t fun p hp e=>hq ⟨p,hp,e⟩,fun r hr hri hd=>?_⟩
    rcases List.mem_append.1 hr with hr|hr
    ·exact absurd ⟨r,hr,hd⟩ hq
    ·simp at hr;subst hr;exact absurd rfl hri
theorem eager (tl:Told l) {listed:Array Bool}:∀ (todo:List (Nat × Bool)) (done:List Nat) (pend:List Pend) (env:Env),SInv P T l w0 listed done (todo.map (·.1)) pend env H ρ a w→
 chk T l (masks l []) done todo=true→aOpsD P T l (opsOf l todo) env H K→
 ∃ done' todo' pend' env',SInv P T l w0 listed done' (todo'.map (·.1)) pend' env' H ρ a w∧chk T l (masks l []) done' todo'=true∧aOpsD P T l (opsOf l todo') env' H K∧
  (∀ x n r,todo'=(x,n)::r→isEff (opAt l x)=true)∧todo'.length+pend'.length=todo.length+pend.length
 | [],done,pend,env,S,hc,h=>⟨done,[],pend,env,S,hc,h,by simp,rfl⟩
 | (x,need)::rest,done,pend,env,S,hc,h=>by
  cases he:isEff (opAt l x) with
  | true=>exact ⟨done,(x,need)::rest,pend,env,S,hc,h,fun y n r e=>by simp at e;rw [← e.1.1];exact he,rfl⟩
  | false=>
   obtain ⟨h1,h2,h3,h4,h5⟩:=zpt hc
   have hneed:=h4 he
   subst hneed
   simp only [opsOf,List.map_cons,aOpsD] at h
   rcases zat h with ⟨hok,h⟩|⟨_,h⟩
   ·have hok':∀ y∈(opAt l x).op.operands,operandOK P.globals.size y=true:=fun y hy=>List.all_eq_true.1 hok y (by simpa using hy)
    obtain ⟨b,hb,hg⟩:=zfx h
    have step:∃ v,PF P T l (opAt l x) env v H∧aOpsD P T l (opsOf l rest) (Env.put env (opAt l x).dst v) H K:=by
     rcases zat hb with ⟨rfl,hb⟩|⟨rfl,hb⟩
     ·obtain ⟨v,k1,k2⟩:=zor he (AHeap.le_refl H) hb
      exact ⟨v,⟨hok',hg _ ⟨rfl,k2⟩⟩,k1⟩
     ·exact ⟨undef,⟨hok',hg _ ⟨rfl,rfl⟩⟩,hb⟩
    obtain ⟨v,hpf,hk⟩:=step
    obtain ⟨d',t',p',e',g1,g2,g3,g4,g5⟩:=eager tl rest (done++[x]) (pend++[⟨x,env,v⟩]) _ (S.reckon tl h1 he hpf) h5 hk
    exact ⟨d',t',p',e',g1,g2,g3,g4,by simp at g5 ⊢;omega⟩
   ·exact h.elim
theorem zgp {listed:Array Bool} {i:Nat} (hs:listed.size=l.length) (h:i∈Region.ready .any ⟨l⟩ listed):i<l.length∧listed[i]?≠some true∧∀ p∈predsOf (opAt l i),listed[p]?=some true:=by
 unfold Region.ready at h
 simp only [List.size_toArray,List.mem_filter,List.mem_range,Bool.and_eq_true,Bool.not_eq_true',List.getElem?_toArray] at h
 obtain ⟨h1,h2,h3⟩:=h
 refine ⟨h1,?_,?_⟩
 ·intro e
  simp [Array.getD_eq_getD_getElem?,e] at h2
 ·intro p hp
  have ho:l[i]?=some (opAt l i):=by simp [opAt,List.getD,h1]
  rw [ho] at h3
  simp only [Option.map_some,Option.getD_some,Array.all_eq_true_iff_forall_mem] at h3
  unfold predsOf at hp
  simp only [List.mem_map,List.mem_filter] at hp
  obtain ⟨e,⟨he,hb⟩,rfl⟩:=hp
  have:=h3 e (by simpa using he)
  rw [hb] at this
  simp [Array.getD_eq_getD_getElem?] at this
  cases hl:listed[e.on]? with
  | none=>rw [hl] at this;simp at this
  | some b=>rw [hl] at this;simpa using this
theorem zuB {listed:Array Bool} {i:Nat} (hs:listed.size=l.length) (h1:i<l.length) (h2:listed[i]?≠some true) (h3:∀ p∈predsOf (opAt l i),listed[p]?=some true):i∈Region.ready .any ⟨l⟩ listed:=by
 unfold Region.ready
 simp only [List.size_toArray,List.mem_filter,List.mem_range,Bool.and_eq_true,Bool.not_eq_true',List.getElem?_toArray]
 have ho:l[i]?=some (opAt l i):=by simp [opAt,List.getD,h1]
 refine ⟨h1,?_,?_⟩
 ·rw [Array.getD_eq_getD_getElem?]
  have hlt:i<listed.size:=by omega
  rw [Array.getElem?_eq_getElem hlt] at h2 ⊢
  simpa using h2
 ·rw [ho]
  simp only [Option.map_some,Option.getD_some,Array.all_eq_true_iff_forall_mem]
  intro e he
  cases hb:Region.binds .any e with
  | false=>simp
  | true=>
   have:=h3 e.on (by unfold predsOf;exact List.mem_map.2 ⟨e,List.mem_filter.2 ⟨by simpa using he,hb⟩,rfl⟩)
   simp [Array.getD_eq_getD_getElem?,this]
theorem zj6 (tl:Told l) {listed:Array Bool} (hs:listed.size=l.length) (h:Region.ready .any ⟨l⟩ listed=[]):∀ i,i<l.length→listed[i]?=some true:=by
 intro i
 induction i using Nat.strongRecOn with
 | _ i ih=>
  intro hi
  by_cases hl:listed[i]?=some true
  ·exact hl
  ·have:=zuB hs hi hl fun p hp=>ih p (tl.preds i p hp) (by have:=tl.preds i p hp;omega)
   rw [h] at this;cases this
theorem zde {listed:Array Bool} {i j:Nat} (hi:i<listed.size):(listed.setIfInBounds i true)[j]?=some true↔j=i∨listed[j]?=some true:=by
 by_cases h:j=i
 ·subst h;simp [hi]
 ·rw [Array.getElem?_setIfInBounds_ne (by omega)];simp [h]
theorem SInv.carry (tl:Told l) {listed:Array Bool} {done todo:List Nat} {pend:List Pend} (S:SInv P T l w0 listed done todo pend env H ρ a w) {p:Pend} (hp:p∈pend) (hready:∀ q∈predsOf (opAt l p.i),listed[q]?=some true)
 {ρ':Loc} {v':Value} {w':World} (hle:ρ.le ρ') (hv:VR ρ' p.v v') (R':Rel T P.globals.size w0 ρ' H w') :
 SInv P T l w0 (listed.setIfInBounds p.i true) done todo (pend.filter (·.i != p.i)) env H ρ' (a.put (opAt l p.i).dst v') w':=by
 have hpi:p.i<l.length:=S.lt _ (.inl (S.pin p hp))
 have hsz:p.i<listed.size:=by rw [S.size];exact hpi
 have mem:∀ {q:Pend},q∈pend.filter (·.i != p.i)↔q∈pend∧q.i≠p.i:=by intro q;simp
 refine ⟨S.all,S.apart,S.lt,S.ndT,?_,by simpa using S.size,?_,?_,S.downD,?_,?_,?_,R',?_,?_,?_,?_,?_,?_⟩
 ·exact (List.Sublist.map _ (List.filter_sublist)).nodup S.ndP
 ·intro i hi
  rw [zde hsz,S.exec i hi]
  constructor
  ·rintro (rfl|⟨h1,h2⟩)
   ·exact ⟨S.pin p hp,fun q hq=>(mem.1 hq).2⟩
   ·exact ⟨h1,fun q hq=>h2 q (mem.1 hq).1⟩
  ·rintro ⟨h1,h2⟩
   by_cases h:i=p.i
   ·exact .inl h
   ·exact .inr ⟨h1,fun q hq e=>h2 q (mem.2 ⟨hq,fun e2=>h (e▸e2)⟩) e⟩
 ·intro j hj q hq
  rw [zde hsz] at hj ⊢
  rcases hj with rfl|hj
  ·exact .inr (hready q hq)
  ·exact .inr (S.down j hj q hq)
 ·rw [zlC];exact S.len
 ·rw [zfK];exact S.defers
 ·intro t ht
  by_cases hd:(opAt l p.i).dst=some t
  ·rw [hd]
   exact FitAt.put_same S.len hv fun hlt=>S.pval p hp t hd hlt
  ·exact FitAt.act_ne ((S.fit t fun q hq e=>ht q (mem.2 ⟨hq,fun e2=>hd (e2▸e)⟩) e).mono hle) hd
 ·intro q hq;exact S.pin q (mem.1 hq).1
 ·intro q hq;exact S.peff q (mem.1 hq).1
 ·intro q hq;exact S.pval q (mem.1 hq).1
 ·intro q hq;exact S.plen q (mem.1 hq).1
 ·intro q hq;exact S.pf q (mem.1 hq).1
 ·intro q hq t ht
  obtain ⟨hq1,hq2⟩:=mem.1 hq
  have hqi:q.i<l.length:=S.lt _ (.inl (S.pin q hq1))
  have notlisted:∀ r∈pend,listed[r.i]?≠some true:=fun r hr e=>((S.exec _ (S.lt _ (.inl (S.pin r hr)))).1 e).2 r hr rfl
  by_cases hd:(opAt l p.i).dst=some t
  ·-- its value now lies in its temporary
   have hbef:bef (masks l []) p.i q.i=true:=by
    rcases (tl.tmps p.i q.i t hpi hqi (fun e=>hq2 e.symm) hd).2 ht with k|k
    ·exact k
    ·exact absurd (zbd (fun j=>listed[j]?=some true∨j=p.i) l (by
      intro j hj r hr
      rcases hj with hj|rfl
      ·exact .inl (S.down j hj r hr)
      ·exact .inl (hready r hr)) (.inr rfl) k) (by rintro (e|e);exact notlisted q hq1 e;exact hq2 e)
   rcases S.pops q hq1 t ht with ⟨k,k'⟩|⟨r,k1,k2,k3,k4,k5⟩
   ·have:=k' p hp (fun e=>hq2 e.symm) hd
    rw [hbef] at this;cases this
   ·have hr:r.i=p.i:=by
     by_cases e:r.i=p.i
     ·exact e
     ·exact absurd hd (tl.tmps r.i p.i t (S.lt _ (.inl (S.pin r k1))) hpi e k3).1
    have:r=p:=znw S.ndP k1 hp hr
    subst this
    left
    refine ⟨?_,fun s hs hsi hds=>?_⟩
    rotate_left
    ·have e1:s.i=r.i:=by
      by_cases e:s.i=r.i
      ·exact e
      ·exact absurd hd (tl.tmps s.i r.i t (S.lt _ (.inl (S.pin s (mem.1 hs).1))) hpi e hds).1
     exact absurd e1 (mem.1 hs).2
    rw [hd]
    refine FitAt.put_same (env:=q.E) ?_ hv fun hlt=>?_
    ·rw [S.plen q hq1];exact S.len
    ·exact k5 (by rw [← S.plen q hq1];exact hlt)
  ·rcases S.pops q hq1 t ht with ⟨k,k'⟩|⟨r,k1,k2,k3,k4,k5⟩
   ·exact .inl ⟨FitAt.act_ne (k.mono hle) hd,fun r hr=>k' r (mem.1 hr).1⟩
   ·exact .inr ⟨r,mem.2 ⟨k1,fun e=>hd (e▸k3)⟩,k2,k3,k4,k5⟩
theorem SInv.turn (tl:Told l) {listed:Array Bool} {done rest:List Nat} {pend:List Pend} {x:Nat} (S:SInv P T l w0 listed done (x::rest) pend env H ρ a w) (hready:∀ q∈predsOf (opAt l x),listed[q]?=some true)
 {ρ':Loc} {v v':Value} {H':AHeap} {w':World} (hle:ρ.le ρ') (hv:VR ρ' v v') (R':Rel T P.globals.size w0 ρ' H' w') (hH:∀ p∈pend,H.le H'∨heapRd T (opAt l p.i)=false) :
 SInv P T l w0 (listed.setIfInBounds x true) (done++[x]) rest pend (Env.put env (opAt l x).dst v) H' ρ' (a.put (opAt l x).dst v') w':=by
 have hx:x<l.length:=S.lt x (.inr (by simp))
 have hxd:x∉done:=fun h=>S.apart x h (by simp)
 have hne:∀ p∈pend,p.i≠x:=fun p hp e=>hxd (e▸S.pin p hp)
 have hnd:=List.nodup_cons.1 S.ndT
 have hsz:x<listed.size:=by rw [S.size];exact hx
 have notlisted:∀ r∈pend,listed[r.i]?≠some true:=fun r hr e=>((S.exec _ (S.lt _ (.inl (S.pin r hr)))).1 e).2 r hr rfl
 have closed:∀ {i j:Nat},bef (masks l []) i j=true→(listed[j]?=some true∨j=x)→(listed[i]?=some true∨i=x):=fun hb hj=>
  zbd (fun j=>listed[j]?=some true∨j=x) l (by
   intro j hj r hr
   rcases hj with hj|rfl
   ·exact .inl (S.down j hj r hr)
   ·exact .inl (hready r hr)) hj hb
 refine ⟨?_,?_,?_,hnd.2,S.ndP,by simpa using S.size,?_,?_,?_,?_,?_,?_,R',?_,S.peff,?_,?_,?_,?_⟩
 ·intro i hi
  rcases S.all i hi with h|h
  ·exact .inl (by simp [h])
  ·rcases List.mem_cons.1 h with rfl|h
   ·exact .inl (by simp)
   ·exact .inr h
 ·intro i hi
  rcases List.mem_append.1 hi with h|h
  ·exact fun k=>S.apart i h (by simp [k])
  ·simp at h;subst h;exact hnd.1
 ·intro i hi
  rcases hi with h|h
  ·rcases List.mem_append.1 h with h|h
   ·exact S.lt i (.inl h)
   ·simp at h;subst h;exact hx
  ·exact S.lt i (.inr (by simp [h]))
 ·intro i hi
  rw [zde hsz,S.exec i hi]
  constructor
  ·rintro (rfl|⟨h1,h2⟩)
   ·exact ⟨by simp,hne⟩
   ·exact ⟨by simp [h1],h2⟩
  ·rintro ⟨h1,h2⟩
   rcases List.mem_append.1 h1 with h|h
   ·exact .inr ⟨h,h2⟩
   ·simp at h;exact .inl h
 ·intro j hj q hq
  rw [zde hsz] at hj ⊢
  rcases hj with rfl|hj
  ·exact .inr (hready q hq)
  ·exact .inr (S.down j hj q hq)
 ·intro j hj p hpj
  rcases List.mem_append.1 hj with h|h
  ·simp [S.downD j h p hpj]
  ·simp at h;subst h
   have:=hready p hpj
   have hp:=tl.preds j p hpj
   simp [((S.exec p (by omega)).1 this).1]
 ·rw [zbY,zlC];exact S.len
 ·rw [zfK];exact S.defers
 ·intro t ht
  by_cases hd:(opAt l x).dst=some t
  ·rw [hd]
   refine FitAt.put_same (by rw [zbY];exact S.len) hv fun hlt=>?_
   rw [zbY] at hlt
   exact zez env v hlt
  ·exact FitAt.put_ne ((S.fit t ht).mono hle) hd
 ·intro p hp
  simp [S.pin p hp]
 ·intro p hp t ht hlt
  rw [zbY] at hlt
  have:=(tl.tmps p.i x t (S.lt _ (.inl (S.pin p hp))) hx (hne p hp) ht).1
  rw [zcL env v this]
  exact S.pval p hp t ht hlt
 ·intro p hp
  rw [zbY];exact S.plen p hp
 ·intro p hp
  exact (S.pf p hp).le (S.peff p hp) (hH p hp)
 ·intro p hp t ht
  have hpl:=S.lt _ (.inl (S.pin p hp))
  have hd:(opAt l x).dst≠some t:=by
   intro hd
   rcases (tl.tmps x p.i t hx hpl (fun e=>hne p hp e.symm) hd).2 ht with k|k
   ·exact hxd (zbd (·∈done) l S.downD (S.pin p hp) k)
   ·rcases closed k (.inr rfl) with e|e
    ·exact notlisted p hp e
    ·exact hne p hp e
  rcases S.pops p hp t ht with ⟨k,k'⟩|⟨r,k1,k2,k3,k4,k5⟩
  ·exact .inl ⟨FitAt.act_ne (k.mono hle) hd,k'⟩
  ·exact .inr ⟨r,k1,k2,k3,k4,fun h=>k5 (by rwa [zbY] at h)⟩
theorem sim (hT:TT.ok P T) (tl:Told l) {Q:Exit→Act→World→Prop} {ρ0:Loc}
 (hq:∀ env' H' ρ' a' w',K env' H'→ρ0.le ρ'→EnvR ρ' env' a'→Rel T P.globals.size w0 ρ' H' w'→Q .normal a' w') :
 ∀ (fuel:Nat) (listed:Array Bool) (done:List Nat) (todo:List (Nat × Bool)) (pend:List Pend) (env:Env) (H:AHeap) (ρ:Loc) (a:Act) (w:World),
  SInv P T l w0 listed done (todo.map (·.1)) pend env H ρ a w→ρ0.le ρ→chk T l (masks l []) done todo=true→aOpsD P T l (opsOf l todo) env H K→
  (∀ x n r,todo=(x,n)::r→isEff (opAt l x)=true)→fuel=todo.length+pend.length→wpAny P .any ⟨l⟩ Q fuel listed a w:=by
 intro fuel
 induction fuel with
 | zero=>
  intro listed done todo pend env H ρ a w S hle hc h he hf
  have h1:todo=[]:=List.length_eq_zero_iff.1 (by omega)
  have h2:pend=[]:=List.length_eq_zero_iff.1 (by omega)
  subst h1;subst h2
  have hall:∀ i,i<l.length→listed[i]?=some true:=fun i hi=>(S.exec i hi).2 ⟨by rcases S.all i hi with h|h;exact h;simp at h,by simp⟩
  refine ⟨?_,hq env H ρ a w h hle ⟨?_,S.defers⟩ S.rel⟩
  ·cases hr:Region.ready .any ⟨l⟩ listed with
   | nil=>rfl
   | cons i r=>
    have:=zgp S.size (i:=i) (by rw [hr];simp)
    exact absurd (hall i this.1) this.2.1
  ·refine VRs.of_get (by simpa using S.len) fun t v hv=>?_
   obtain ⟨v',g1,g2⟩:=FitAt.get S.len (S.fit t (by simp)) hv
   exact ⟨v',by simpa using g1,g2⟩
 | succ fuel ih=>
  intro listed done todo pend env H ρ a w S hle hc h he hf
  refine ⟨?_,?_⟩
  ·intro hr
   have hall:=zj6 tl S.size hr
   exfalso
   rcases pend with _|⟨p,pend⟩
   ·rcases todo with _|⟨x,todo⟩
    ·simp at hf
    ·have hx:=S.lt x.1 (.inr (by simp))
     have:=((S.exec x.1 hx).1 (hall _ hx)).1
     exact S.apart _ this (by simp)
   ·have hx:=S.lt p.i (.inl (S.pin p (by simp)))
    exact ((S.exec p.i hx).1 (hall _ hx)).2 p (by simp) rfl
  ·intro i hi
   obtain ⟨hil,hnl,hpr⟩:=zgp S.size hi
   have hsz:i<listed.size:=by rw [S.size];exact hil
   have ho:(⟨l⟩:Array Oper)[i]?=some (opAt l i):=by simp [opAt,List.getD,hil]
   unfold wpOp
   simp only [ho]
   by_cases hid:i∈done
   ·-- one that was reckoned
    have:∃ p∈pend,p.i=i:=by
     by_cases hc:∃ p∈pend,p.i=i
     ·exact hc
     ·exact absurd ((S.exec i hil).2 ⟨hid,fun p hp e=>hc ⟨p,hp,e⟩⟩) hnl
    obtain ⟨p,hp,rfl⟩:=this
    have notlisted:∀ r∈pend,listed[r.i]?≠some true:=fun r hr e=>((S.exec _ (S.lt _ (.inl (S.pin r hr)))).1 e).2 r hr rfl
    have hfit:∀ t∈looks l (opAt l p.i),FitAt ρ p.E a t:=by
     intro t ht
     rcases S.pops p hp t ht with ⟨k,_⟩|⟨r,k1,k2,k3,k4,k5⟩
     ·exact k
     ·exact absurd (zbd (fun j=>listed[j]?=some true∨j=p.i) l (by
       intro j hj r hr
       rcases hj with hj|rfl
       ·exact .inl (S.down j hj r hr)
       ·exact .inl (hpr r hr)) (.inr rfl) k4) (by rintro (e|e);exact notlisted r k1 e;exact k2 e)
    obtain ⟨hok,hpf⟩:=S.pf p hp
    have hgt:∀ t,guardTmp l (opAt l p.i)=some t→FitAt ρ p.E a t:=fun t ht=>hfit t (by simp [looks,ht])
    obtain ⟨b,⟨_,hb⟩,hw⟩:=zcS (by rw [S.plen p hp];exact S.len) hgt hpf
    have hlen:fuel=todo.length+(pend.filter (·.i != p.i)).length:=by
     have:(pend.filter (·.i != p.i)).length+1=pend.length:=zg9 (i:=0) S.ndP hp
     omega
    rcases zat hb with ⟨rfl,hb⟩|⟨rfl,hb⟩
    ·rw [if_pos hw]
     left
     refine zeB hT S.rel (zdb S.rel.glob hok hfit) hb ?_
     rintro v v' ρ' H' w' ⟨rfl,rfl⟩ hle' hv R'
     exact ih _ done todo _ env H' ρ' _ w' (S.carry tl hp hpr hle' hv R') (Loc.le_trans hle hle') hc h he hlen
    ·rw [if_neg (by simp [hw])]
     exact ih _ done todo _ env H ρ _ w (S.carry tl hp hpr (Loc.le_refl _) (by rw [hb];exact VR.undef _) S.rel) hle hc h he hlen
   ·-- the next one that turns the heap
    rcases todo with _|⟨⟨x,need⟩,rest⟩
    ·rcases S.all i hil with k|k
     ·exact absurd k hid
     ·simp at k
    ·have hex:=he x need rest rfl
     obtain ⟨c1,c2,c3,c4,c5⟩:=zpt hc
     have hix:i=x:=by
      rcases S.all i hil with k|k
      ·exact absurd k hid
      ·simp only [List.map_cons,List.mem_cons] at k
       rcases k with k|k
       ·exact k
       ·obtain ⟨y,hy,rfl⟩:=List.mem_map.1 k
        obtain ⟨q,hq1,hq2⟩:=c2 hex y hy
        have hq3:=hpr q hq1
        have hq4:=tl.preds y.1 q hq1
        exact absurd ((S.exec q (by omega)).1 hq3).1 hq2
     subst hix
     have notlisted:∀ r∈pend,listed[r.i]?≠some true:=fun r hr e=>((S.exec _ (S.lt _ (.inl (S.pin r hr)))).1 e).2 r hr rfl
     have hne:∀ p∈pend,p.i≠i:=fun p hp e=>hid (e▸S.pin p hp)
     have closed:∀ {p:Pend},p∈pend→bef (masks l []) p.i i=true→False:=fun {p} hp hb=>by
      have:=zbd (fun j=>listed[j]?=some true∨j=i) l (by
       intro j hj r hr
       rcases hj with hj|rfl
       ·exact .inl (S.down j hj r hr)
       ·exact .inl (hpr r hr)) (.inr rfl) hb
      rcases this with e|e
      ·exact notlisted p hp e
      ·exact hne p hp e
     have hfit:∀ t∈looks l (opAt l i),FitAt ρ env a t:=by
      intro t ht
      refine S.fit t fun p hp hd=>?_
      rcases (tl.tmps p.i i t (S.lt _ (.inl (S.pin p hp))) hil (hne p hp) hd).2 ht with k|k
      ·exact closed hp k
      ·exact hid (zbd (·∈done) l S.downD (S.pin p hp) k)
     simp only [opsOf,List.map_cons,aOpsD] at h
     rcases zat h with ⟨hok,h⟩|⟨_,h⟩
     ·have hok':∀ y∈(opAt l i).op.operands,operandOK P.globals.size y=true:=fun y hy=>List.all_eq_true.1 hok y (by simpa using hy)
      obtain ⟨b,hb,hw⟩:=zcS S.len (fun t ht=>hfit t (by simp [looks,ht])) h
      have next:∀ {ρ':Loc} {v v':Value} {H':AHeap} {w':World},ρ.le ρ'→VR ρ' v v'→Rel T P.globals.size w0 ρ' H' w'→(∀ p∈pend,H.le H'∨heapRd T (opAt l p.i)=false)→aOpsD P T l (opsOf l rest) (Env.put env (opAt l i).dst v) H' K→
       wpAny P .any ⟨l⟩ Q fuel (listed.setIfInBounds i true) (a.put (opAt l i).dst v') w':=by
       intro ρ' v v' H' w' hle' hv R' hH hk
       obtain ⟨d',t',p',e',g1,g2,g3,g4,g5⟩:=eager tl rest (done++[i]) pend _ (S.turn tl hpr hle' hv R' hH) c5 hk
       exact ih _ d' t' p' e' H' ρ' _ w' g1 (Loc.le_trans hle hle') g2 g3 g4 (by simp at hf;omega)
      rcases zat hb with ⟨rfl,hb⟩|⟨rfl,hb⟩
      ·rw [if_pos hw]
       left
       -- what is asked of the heap
       have hb':aOp P T (opAt l i) (aev env) H fun v H'=>(∀ p∈pend,H.le H'∨heapRd T (opAt l p.i)=false)∧aOpsD P T l (opsOf l rest) (Env.put env (opAt l i).dst v) H' K:=by
        rcases c3 hex with rfl|k|k
        ·exact zgs hex hb fun v H' hk=>⟨fun _ _=>.inl hk.1,hk.2⟩
        ·refine zgs hex (zp7 k hb) fun v H' hk=>⟨fun _ _=>.inl hk.1,?_⟩
         cases need with
         | false=>exact hk.2
         | true=>exact hk.2.2
        ·refine zgs hex hb fun v H' hk=>⟨fun p hp=>.inr ?_,?_⟩
         ·rcases k p.i (S.pin p hp) with k|k
          ·exact k
          ·exact (closed hp k).elim
         ·cases need with
          | false=>exact hk
          | true=>exact hk.2
       refine zeB hT S.rel (zdb S.rel.glob hok' hfit) hb' ?_
       rintro v v' ρ' H' w' ⟨hH,hk⟩ hle' hv R'
       exact next hle' hv R' hH hk
      ·rw [if_neg (by simp [hw])]
       exact next (Loc.le_refl _) (VR.undef _) S.rel (fun _ _=>.inl (AHeap.le_refl _)) hb
     ·exact h.elim
end
end Go.Abs
/- A region whose order is drawn: the rule. -/
namespace Go.Abs
open Go.RowKit
section
variable {P:Program} {T:TT} {w0 w:World} {ρ:Loc} {H:AHeap} {env:Env} {a:Act} {l:List Oper} {Q:Exit→Env→AHeap→Prop}

theorem zlv {τ:List (Nat × Bool)} (h:drawOK T l τ=true):Told l∧τ.length=l.length∧(∀ i,i<l.length→i∈τ.map (·.1))∧(∀ i∈τ.map (·.1),i<l.length)∧(τ.map (·.1)).Nodup∧chk T l (masks l []) [] τ=true:=by
 simp only [drawOK,Bool.and_eq_true,List.all_eq_true,List.mem_range,decide_eq_true_eq,List.contains_iff_mem] at h
 obtain ⟨⟨⟨⟨⟨⟨h1,h2⟩,h3⟩,h4⟩,h5⟩,h7⟩,h6⟩:=h
 refine ⟨⟨?_,?_⟩,h1,h2,?_,zcX h7,h6⟩
 ·intro j p hp
  by_cases hj:j<l.length
  ·exact h4 j hj p hp
  ·have:opAt l j=default:=by simp [opAt,List.getD,List.getElem?_eq_none (show l.length≤j by omega)]
   rw [this] at hp
   cases hp
 ·intro i j t hi hj hij hd
  have:=h5 i hi
  rw [hd] at this
  simp only [List.all_eq_true,List.mem_range,Bool.or_eq_true,Bool.and_eq_true,beq_iff_eq,bne_iff_ne,Bool.not_eq_true'] at this
  rcases this j hj with h|⟨h,k⟩
  ·exact absurd h hij
  ·refine ⟨h,fun ht=>?_⟩
   rcases k with (k|k)|k
   ·have:(looks l (opAt l j)).contains t=true:=by simpa using ht
    rw [this] at k;cases k
   ·exact .inl k
   ·exact .inr k
 ·intro i hi
  obtain ⟨x,hx,rfl⟩:=List.mem_map.1 hi
  exact h3 x hx
theorem AW.region_draw (hT:TT.ok P T) (hm:P.follows .mixedOrders=true) {id:Nat} (τ:List (Nat × Bool)) (hc:drawOK T l τ=true) (h:aOpsD P T l (opsOf l τ) env H fun env H=>Q .normal env H) :
 AW P T (.region id ⟨l⟩ true) env H Q:=by
 intro w0 w ρ a R E
 obtain ⟨tl,h1,h2,h3,hnd,h4⟩:=zlv hc
 refine wp_region_any hm ?_
 have S:SInv P T l w0 (Array.replicate (⟨l⟩:Array Oper).size false) [] (τ.map (·.1)) [] env H ρ a { w with drawn:=w.drawn+1 }:=by
  refine ⟨fun i hi=>.inr (h2 i hi),by simp,fun i hi=>h3 i (by simpa using hi),hnd,by simp,by simp,?_,?_,by simp,by simpa using E.vals.length,E.defers,fun t _=>E.fit t,R.drew _,by simp,by simp,by simp,by simp,by simp,by simp⟩
  ·intro i hi
   simp [hi]
  ·intro j hj
   by_cases hjl:j<l.length
   ·simp [hjl] at hj
   ·simp [hjl] at hj
 obtain ⟨d',t',p',e',g1,g2,g3,g4,g5⟩:=eager tl τ [] [] env S h4 h
 have hf:(⟨l⟩:Array Oper).size=t'.length+p'.length:=by simp at g5 ⊢;omega
 rw [hf]
 rw [show Array.replicate (t'.length+p'.length) false=Array.replicate (⟨l⟩:Array Oper).size false by rw [hf]]
 refine sim (ρ0:=ρ) hT tl ?_ _ _ d' t' p' e' H ρ a _ g1 (Loc.le_refl _) g2 g3 g4 rfl
 intro env' H' ρ' a' w' k1 k2 k3 k4
 exact ⟨env',H',ρ',k1,k2,k3,k4⟩
end
end Go.Abs
/- Types off the program; ways into a function's code; environments. -/
namespace Go.Abs
open Go.RowKit

def tyOf (P:Program):TT:=fun t=>
 match P.info? t with
 | some i=>match P.underlying t,i.zero with
  | some d,some z=>some ⟨d,i.size,i.bytes,z⟩
  | _,_=>none
 | none=>none
theorem zyq (P:Program):TT.ok P (tyOf P):=by
 intro t i h
 unfold tyOf at h
 split at h
 ·rename_i j hj
  split at h
  ·rename_i d z hd hz
   obtain rfl:=Option.some.inj h
   exact ⟨hd,j,hj,rfl,rfl,hz⟩
  ·cases h
 ·cases h
inductive Dir where
 | l|r
def codeAt:Code→List Dir→Code
 | c,[]=>c
 | .seq x _,.l::p=>codeAt x p
 | .seq _ y,.r::p=>codeAt y p
 | .cond _ x _,.l::p=>codeAt x p
 | .cond _ _ y,.r::p=>codeAt y p
 | .block _ c,.l::p=>codeAt c p
 | .loop c,.l::p=>codeAt c p
 | c,_=>c
def bodyOf (f:Func):Code:=f.body.getD .skip
def opsIn:Code→List Oper
 | .region _ ops _=>ops.toList
 | _=>[]
def mkEnv (u:Nat→Value):Nat→Nat→Env
 | 0,_=>[]
 | n+1,i=>u i::mkEnv u n (i+1)
theorem zht (u:Nat→Value):∀ n i,(mkEnv u n i).length=n
 | 0,_=>rfl
 | n+1,i=>by simp [mkEnv,zht u n]
theorem zmE (u:Nat→Value):∀ n i k,k<n→(mkEnv u n i)[k]?=some (u (i+k))
 | 0,_,_,h=>by omega
 | n+1,i,0,_=>by simp [mkEnv]
 | n+1,i,k+1,h=>by
  simp only [mkEnv,List.getElem?_cons_succ]
  rw [zmE u n (i+1) k (by omega)];congr 2;omega
theorem ztd {env:Env} {n:Nat} (h:env.length=n):env=mkEnv (fun t=>env.getD t undef) n 0:=by
 apply List.ext_getElem?
 intro k
 by_cases hk:k<n
 ·rw [zmE _ _ _ _ hk]
  simp [List.getD,h,hk,List.getElem?_eq_getElem (show k<env.length by omega)]
 ·rw [List.getElem?_eq_none (by omega),List.getElem?_eq_none (by rw [zht];omega)]
def upd (u:Nat→Value) (t:Nat) (v:Value):Nat→Value:=fun x=>if x=t then v else u x
theorem zhl {u:Nat→Value} {t:Nat} {v:Value} (h:u t=v):upd u t v=u:=by
 funext x
 unfold upd
 split
 ·rename_i e;rw [e,h]
 ·rfl
end Go.Abs
/- The rules in the form in which a program prints their use. -/
namespace Go.Abs
open Go.RowKit

abbrev EP:=Env→AHeap→Prop
def mkQ (K:EP) (X:Nat→EP) (Rt:EP):Exit→Env→AHeap→Prop
 | .normal=>K
 | .exit i=>X i
 | .ret=>Rt
 | _=>fun _ _=>False
def updX (X:Nat→EP) (id:Nat) (K:EP):Nat→EP:=fun i=>if i=id then K else X i
section
variable {P:Program} {T:TT} {A B C K M Rt:EP} {X:Nat→EP} {c x y:Code}

theorem zBW (h1:∀ env H,A env H→AW P T x env H (mkQ M X Rt)) (h2:∀ env H,M env H→AW P T y env H (mkQ K X Rt)):∀ env H,A env H→AW P T (.seq x y) env H (mkQ K X Rt):=by
 intro env H h
 refine AW.seq ((h1 env H h).mono ?_)
 intro e env H q
 cases e with
 | normal=>exact h2 env H q
 | _=>exact q
theorem zvv (hT:TT.ok P T) {id:Nat} {l:List Oper} (h:∀ env H,A env H→aOps P T l l env H K):∀ env H,A env H→AW P T (.region id ⟨l⟩ false) env H (mkQ K X Rt):=
 fun env H ha=>AW.region hT (h env H ha)
theorem zzU (hT:TT.ok P T) (hm:P.follows .mixedOrders=true) {id:Nat} {l:List Oper} (τ:List (Nat × Bool)) (hc:drawOK T l τ=true) (h:∀ env H,A env H→aOpsD P T l (opsOf l τ) env H K):∀ env H,A env H→AW P T (.region id ⟨l⟩ true) env H (mkQ K X Rt):=
 fun env H ha=>AW.region_draw hT hm τ hc (h env H ha)
theorem zBN {o:Operand} (ho:operandOK P.globals.size o=true) (hx:∀ env H,B env H→AW P T x env H (mkQ K X Rt)) (hy:∀ env H,C env H→AW P T y env H (mkQ K X Rt)) :
 ∀ env H,(asB (aev env o) fun b=>pif b (B env H) (C env H))→AW P T (.cond o x y) env H (mkQ K X Rt):=by
 intro env H h
 refine AW.cond ho (zpN h fun b h=>?_)
 cases b
 ·exact hy env H h
 ·exact hx env H h
theorem zBy {Q:Exit→Env→AHeap→Prop} (h:∀ env H,C env H→AW P T y env H Q):∀ env H,C env H→AW P T (.cond (.const (.bool false)) x y) env H Q:=fun env H hc=>AW.cond rfl (h env H hc)
theorem zBC {id:Nat} (h:∀ env H,A env H→AW P T c env H (mkQ K (updX X id K) Rt)):∀ env H,A env H→AW P T (.block id c) env H (mkQ K X Rt):=by
 intro env H ha
 refine AW.block ((h env H ha).mono ?_)
 intro e env H q
 cases e with
 | exit i=>
  simp only [blockQ]
  simp only [mkQ,updX] at q
  split
  ·rename_i hi;rw [if_pos hi] at q;exact q
  ·rename_i hi;rw [if_neg hi] at q;exact q
 | _=>exact q
theorem zBS:∀ env H,K env H→AW P T .skip env H (mkQ K X Rt):=fun env H h=>AW.skip h
theorem zBT {id:Nat} (h:∀ env H,A env H→X id env H):∀ env H,A env H→AW P T (.exit id) env H (mkQ K X Rt):=fun env H ha=>AW.exit (h env H ha)
theorem zBV:∀ env H,Rt env H→AW P T .ret env H (mkQ K X Rt):=fun env H h=>AW.ret h
theorem zBJ:∀ env H,False→AW P T c env H (mkQ K X Rt):=fun env H h=>h.elim
theorem zzX (J:Nat→EP) (h:∀ n env H,J n env H→AW P T c env H (mkQ (fun env' H'=>∃ m,m<n∧J m env' H') X Rt)):∀ env H,(∃ n,J n env H)→AW P T (.loop c) env H (mkQ K X Rt):=by
 intro env H ⟨n,hn⟩ w0 w ρ a R E
 have key:∀ (n:Nat) (env:Env) (H:AHeap) (ρ':Loc) (a:Act) (w:World),J n env H→ρ.le ρ'→EnvR ρ' env a→Rel T P.globals.size w0 ρ' H w→
  ∀ (b:Frame) (k:List Item) (cs:List Frame),∃ e a' w',lift P T w0 ρ (mkQ K X Rt) e a' w'∧Arrives P (lone (b.at a (.code c::.inLoop c::k)) cs w) b k cs e a' w':=by
  intro n
  induction n using Nat.strongRecOn with
  | _ n ih=>
   intro env H ρ' a w hI hle E R b k cs
   obtain ⟨e,a₁,w₁,⟨env1,H1,ρ1,hq,hle1,E1,R1⟩,harr⟩:=h n env H hI w0 w ρ' a R E b (.inLoop c::k) cs
   cases e with
   | normal=>
    obtain ⟨m,hlt,hI1⟩:=hq
    obtain ⟨e₂,a₂,w₂,hq₂,harr₂⟩:=ih m hlt env1 H1 ρ1 a₁ w₁ hI1 (Loc.le_trans hle hle1) E1 R1 b k cs
    exact ⟨e₂,a₂,w₂,hq₂,.of_steps (Steps.trans harr (.one step_inLoop)) harr₂⟩
   | exit id=>exact ⟨.exit id,a₁,w₁,⟨env1,H1,ρ1,hq,Loc.le_trans hle hle1,E1,R1⟩,.pass (x:=.inLoop c) rfl (fun _ _=>.inl (by simp)) harr⟩
   | ret=>exact ⟨.ret,a₁,w₁,⟨env1,H1,ρ1,hq,Loc.le_trans hle hle1,E1,R1⟩,.pass (x:=.inLoop c) rfl (fun _ _=>.inl (by simp)) harr⟩
   | goto l=>exact hq.elim
   | panic ch=>exact hq.elim
   | outgrown=>exact hq.elim
 intro b k cs
 obtain ⟨e,a',w',hq,harr⟩:=key n env H ρ a w hn (Loc.le_refl _) E R b k cs
 exact ⟨e,a',w',hq,.of_steps (.one step_loop) harr⟩
theorem zBF (h:∀ env H,A env H→AW P T c env H (mkQ K X Rt)) (hk:∀ env H,K env H→M env H):∀ env H,A env H→AW P T c env H (mkQ M X Rt):=by
 intro env H ha
 refine (h env H ha).mono ?_
 intro e env H q
 cases e with
 | normal=>exact hk env H q
 | _=>exact q
def retE (T:TT) (n:Nat) (fn:Func) (Post:Value→AHeap→Prop):EP:=fun env H=>pif (Nat.beq env.length n) (resK T fn.results.toList env H fun l=>Post (retV l) H) False
theorem r_fn (hT : TT.ok P T) {f : FuncId} {fn : Func} {args : List Value} {H : AHeap} {Post : Value → AHeap → Prop} {n : Nat} (hf : P.funcs[f]? = some fn) (hb : fn.body = some c) (hn : (fn.name == "runtime.NumGoroutine") = false)
 (h:∀ env H,A env H→AW P T c env H (mkQ (retE T n fn Post) (fun _ _ _=>False) (retE T n fn Post))) (ha:A (args++List.replicate (fn.ntmps-args.length) undef) H):AC P T f args H Post:=by
 refine AC.of_code hT hf hb hn ((h _ H ha).mono ?_)
 intro e env H q
 have fin:retE T n fn Post env H→resK T fn.results.toList env H fun l=>Post (retV l) H:=fun q=>by
  rcases zat q with ⟨_,q⟩|⟨_,q⟩
  ·exact q
  ·exact q.elim
 cases e with
 | normal=>exact fin q
 | ret=>exact fin q
 | exit i=>exact q.elim
 | goto l=>exact q.elim
 | panic ch=>exact q.elim
 | outgrown=>exact q.elim
end

def mkR (H:AHeap) (bytes:Nat) (e:TypeId) (zs:List Value) (n m:Int) (K:Value→AHeap→Prop):Prop:=
 0≤n∧n≤m∧m≤4294967296∧bytes≤1024∧K (.slice (some ⟨H.length,0,none⟩) n.toNat (n.toNat+1)) (H++[some (.row (List.replicate n.toNat zs).flatten e true)])
def asX (v:Value) (K:Nat→Prop):Prop:=
 match v with
 | .pointer (some ⟨b,0,none⟩)=>K b
 | _=>False
theorem zp8 {v:Value} {K:Nat→Prop} (h:asX v K):∃ b,v=.pointer (some ⟨b,0,none⟩)∧K b:=by
 unfold asX at h;split at h
 ·exact ⟨_,rfl,h⟩
 ·exact h.elim
theorem zai {b:Bool} {K:Bool→Prop} (h:K b):asB (.bool b) K:=h
theorem znI {b:ByteArray} {K:ByteArray→Prop} (h:K b):asS (.string b) K:=h
theorem zaq {b o:Nat} {K:Nat→Nat→Prop} (h:K b o):asP (.pointer (some ⟨b,o,none⟩)) K:=h
end Go.Abs
/- Helpers of the printed proofs. -/
namespace Go.Abs
open Go.RowKit

theorem lenE {env:Env} {n:Nat} {A:Prop} (h:pif (Nat.beq env.length n) A False):env.length=n∧A:=by
 rcases zat h with ⟨h1,h⟩|⟨_,h⟩
 ·exact ⟨Nat.eq_of_beq_eq_true h1,h⟩
 ·exact h.elim
theorem lenM {env:Env} {n:Nat} {A:Prop} (hl:env.length=n) (h:A):pif (Nat.beq env.length n) A False:=
 zbF (by rw [hl];exact Nat.beq_refl n) h
theorem zyy {k:IntKind} {v:Value} {n:Int} {K:Int→Prop} (e:v=.int k n) (h:K n):asI k v K:=by subst e;exact zag h
theorem zzh {v:Value} {n:Bool} {K:Bool→Prop} (e:v=.bool n) (h:K n):asB v K:=by subst e;exact h
theorem zzc {v:Value} {n:ByteArray} {K:ByteArray→Prop} (e:v=.string n) (h:K n):asS v K:=by subst e;exact h
theorem zyN {v:Value} {n:Nat} {K:Nat→Prop} (e:v=.pointer (some ⟨n,0,none⟩)) (h:K n):asX v K:=by subst e;exact h
theorem zyW {v:Value} {b o:Nat} {K:Nat→Nat→Prop} (e:v=.pointer (some ⟨b,o,none⟩)) (h:K b o):asP v K:=by subst e;exact h
section
variable {P:Program} {T:TT} {K:EP}
theorem zyt {l:List Oper} {env:Env} {H:AHeap} {n:Nat} {u:Nat→Value} (hl:env.length=n) (hu:u=fun t=>env.getD t undef) (h:aOps P T l l (mkEnv u n 0) H K):aOps P T l l env H K:=by
 subst hu;rw [← ztd hl] at h;exact h
theorem zvb {l:List Oper} {τ:List (Oper × Bool)} {env:Env} {H:AHeap} {n:Nat} {u:Nat→Value} (hl:env.length=n) (hu:u=fun t=>env.getD t undef) (h:aOpsD P T l τ (mkEnv u n 0) H K):aOpsD P T l τ env H K:=by
 subst hu;rw [← ztd hl] at h;exact h
end
end Go.Abs
