/- Code over the abstract heap: the triple and its rules. -/
import Derived.Test.YtodklioaeooocaaA10
import Derived.Tactics
set_option linter.unusedVariables false
set_option linter.unusedSimpArgs false
namespace Go.Abs
open Go.RowKit

def lift (P : Program) (T : TT) (w0 : World) (ρ : Loc) (Q : Exit → Env → AHeap → Prop) : Exit → Act → World → Prop :=
  fun e a w => ∃ env H ρ', Q e env H ∧ ρ.le ρ' ∧ EnvR ρ' env a ∧ Rel T P.globals.size w0 ρ' H w

def AW (P : Program) (T : TT) (c : Code) (env : Env) (H : AHeap) (Q : Exit → Env → AHeap → Prop) : Prop :=
  ∀ (w0 w : World) (ρ : Loc) (a : Act), Rel T P.globals.size w0 ρ H w → EnvR ρ env a → c.wp P (lift P T w0 ρ Q) a w

def thenQ (Q : Exit → Env → AHeap → Prop) (K : Env → AHeap → Prop) : Exit → Env → AHeap → Prop
  | .normal, env, H => K env H
  | e, env, H => Q e env H
def blockQ (id : Nat) (Q : Exit → Env → AHeap → Prop) : Exit → Env → AHeap → Prop
  | .exit id', env, H => if id' = id then Q .normal env H else Q (.exit id') env H
  | e, env, H => Q e env H

section
variable {P : Program} {T : TT} {H : AHeap} {env : Env} {Q Q' : Exit → Env → AHeap → Prop} {c x y : Code}

theorem lift_le {w0 : World} {ρ ρ' : Loc} (h : ρ.le ρ') {e : Exit} {a : Act} {w : World} (k : lift P T w0 ρ' Q e a w) : lift P T w0 ρ Q e a w := by
  obtain ⟨env, H, ρ'', h1, h2, h3⟩ := k
  exact ⟨env, H, ρ'', h1, Loc.le_trans h h2, h3⟩

theorem AW.mono (h : AW P T c env H Q) (hq : ∀ e env H, Q e env H → Q' e env H) : AW P T c env H Q' :=
  fun w0 w ρ a R E => wp_mono (h w0 w ρ a R E) fun e a w ⟨env, H, ρ', h1, h2⟩ => ⟨env, H, ρ', hq _ _ _ h1, h2⟩

theorem AW.skip (h : Q .normal env H) : AW P T .skip env H Q := fun w0 w ρ a R E => wp_skip ⟨env, H, ρ, h, Loc.le_refl _, E, R⟩
theorem AW.exit {id : Nat} (h : Q (.exit id) env H) : AW P T (.exit id) env H Q := fun w0 w ρ a R E => wp_exit ⟨env, H, ρ, h, Loc.le_refl _, E, R⟩
theorem AW.ret (h : Q .ret env H) : AW P T .ret env H Q := fun w0 w ρ a R E => wp_ret ⟨env, H, ρ, h, Loc.le_refl _, E, R⟩

theorem AW.seq (h : AW P T x env H (thenQ Q fun env H => AW P T y env H Q)) : AW P T (.seq x y) env H Q := by
  intro w0 w ρ a R E
  refine wp_seq (wp_mono (h w0 w ρ a R E) ?_)
  rintro e a' w' ⟨env', H', ρ', h1, h2, h3, h4⟩
  cases e with
  | normal => exact wp_mono (h1 w0 w' ρ' a' h4 h3) fun e a w k => lift_le h2 k
  | exit id => exact ⟨env', H', ρ', h1, h2, h3, h4⟩
  | goto l => exact ⟨env', H', ρ', h1, h2, h3, h4⟩
  | ret => exact ⟨env', H', ρ', h1, h2, h3, h4⟩
  | panic ch => exact ⟨env', H', ρ', h1, h2, h3, h4⟩
  | outgrown => exact ⟨env', H', ρ', h1, h2, h3, h4⟩

theorem AW.cond {o : Operand} (ho : operandOK P.globals.size o = true) (h : asB (aev env o) fun b => pif b (AW P T x env H Q) (AW P T y env H Q)) : AW P T (.cond o x y) env H Q := by
  intro w0 w ρ a R E
  obtain ⟨b, hb, h⟩ := asB_elim h
  have hv := aev_rel R.glob E ho
  rw [hb] at hv
  rcases pif_true h with ⟨rfl, h⟩ | ⟨rfl, h⟩
  · exact wp_cond_true hv.bool_inv (h w0 w ρ a R E)
  · exact wp_cond_false hv.bool_inv (h w0 w ρ a R E)

theorem AW.block {id : Nat} (h : AW P T c env H (blockQ id Q)) : AW P T (.block id c) env H Q := by
  intro w0 w ρ a R E
  refine wp_block (wp_mono (h w0 w ρ a R E) ?_)
  rintro e a' w' ⟨env', H', ρ', h1, h2⟩
  cases e with
  | exit id' =>
    simp only [blockQ] at h1
    simp only [Exit.inBlock]
    split
    · rename_i he; rw [if_pos he] at h1; exact ⟨env', H', ρ', h1, h2⟩
    · rename_i he; rw [if_neg he] at h1; exact ⟨env', H', ρ', h1, h2⟩
  | normal => exact ⟨env', H', ρ', h1, h2⟩
  | goto l => exact ⟨env', H', ρ', h1, h2⟩
  | ret => exact ⟨env', H', ρ', h1, h2⟩
  | panic ch => exact ⟨env', H', ρ', h1, h2⟩
  | outgrown => exact ⟨env', H', ρ', h1, h2⟩

theorem AW.loop (I : Env → AHeap → Prop) (μ : Env → AHeap → Nat) (h0 : I env H)
    (round : ∀ env H, I env H → AW P T c env H (thenQ Q fun env' H' => I env' H' ∧ μ env' H' < μ env H)) : AW P T (.loop c) env H Q := by
  intro w0 w ρ a R E
  -- the invariant over acts and worlds, with the measure's value beside it
  have key : ∀ (n : Nat) (env : Env) (H : AHeap) (ρ' : Loc) (a : Act) (w : World), μ env H = n → I env H → ρ.le ρ' → EnvR ρ' env a → Rel T P.globals.size w0 ρ' H w →
      ∀ (b : Frame) (k : List Item) (cs : List Frame), ∃ e a' w', lift P T w0 ρ Q e a' w' ∧ Arrives P (lone (b.at a (.code c :: .inLoop c :: k)) cs w) b k cs e a' w' := by
    intro n
    induction n using Nat.strongRecOn with
    | _ n ih =>
      intro env H ρ' a w hn hI hle E R b k cs
      obtain ⟨e, a₁, w₁, ⟨env1, H1, ρ1, hq, hle1, E1, R1⟩, harr⟩ := round env H hI w0 w ρ' a R E b (.inLoop c :: k) cs
      cases e with
      | normal =>
        obtain ⟨hI1, hlt⟩ := hq
        obtain ⟨e₂, a₂, w₂, hq₂, harr₂⟩ := ih (μ env1 H1) (hn ▸ hlt) env1 H1 ρ1 a₁ w₁ rfl hI1 (Loc.le_trans hle hle1) E1 R1 b k cs
        exact ⟨e₂, a₂, w₂, hq₂, .of_steps (Steps.trans harr (.one step_inLoop)) harr₂⟩
      | exit id => exact ⟨_, a₁, w₁, ⟨env1, H1, ρ1, hq, Loc.le_trans hle hle1, E1, R1⟩, .pass (x := .inLoop c) rfl (fun _ _ => .inl (by simp)) harr⟩
      | goto l => exact ⟨_, a₁, w₁, ⟨env1, H1, ρ1, hq, Loc.le_trans hle hle1, E1, R1⟩, .pass (x := .inLoop c) rfl (fun _ _ => .inl (by simp)) harr⟩
      | ret => exact ⟨_, a₁, w₁, ⟨env1, H1, ρ1, hq, Loc.le_trans hle hle1, E1, R1⟩, .pass (x := .inLoop c) rfl (fun _ _ => .inl (by simp)) harr⟩
      | panic ch => exact ⟨_, a₁, w₁, ⟨env1, H1, ρ1, hq, Loc.le_trans hle hle1, E1, R1⟩, .pass (x := .inLoop c) rfl (fun _ _ => .inl (by simp)) harr⟩
      | outgrown => exact ⟨_, a₁, w₁, ⟨env1, H1, ρ1, hq, Loc.le_trans hle hle1, E1, R1⟩, .pass (x := .inLoop c) rfl (fun _ _ => .inl (by simp)) harr⟩
  intro b k cs
  obtain ⟨e, a', w', hq, harr⟩ := key _ env H ρ a w rfl h0 (Loc.le_refl _) E R b k cs
  exact ⟨e, a', w', hq, .of_steps (.one step_loop) harr⟩

theorem AW.region (hT : TT.ok P T) {id : Nat} {l : List Oper} (h : aOps P T l l env H fun env H => Q .normal env H) : AW P T (.region id ⟨l⟩ false) env H Q := by
  intro w0 w ρ a R E
  refine wp_region_lit (l := l) (aOps_sound (w0 := w0) hT l env H ρ a w R E h ?_)
  intro env' H' ρ' a' w' k1 k2 k3 k4
  exact ⟨env', H', ρ', k1, k2, k3, k4⟩

/-- What a function returns. -/
def resK (T : TT) : List ResultVar → Env → AHeap → (List Value → Prop) → Prop
  | [], _, _, K => K []
  | .tmp t :: rest, env, H, K => resK T rest env H fun l => K (env.getD t undef :: l)
  | .cell t ty :: rest, env, H, K => asP (env.getD t undef) fun b o => ldT T ty H b o fun v => resK T rest env H fun l => K (v :: l)
def retV (l : List Value) : Value :=
  match l with
  | [v] => v
  | l => .tuple ⟨l⟩
def retQ (T : TT) (fn : Func) (Post : Value → AHeap → Prop) : Exit → Env → AHeap → Prop
  | .normal, env, H | .ret, env, H => resK T fn.results.toList env H fun l => Post (retV l) H
  | _, _, _ => False

def resOf (tmps : Array Value) (rv : ResultVar) : Sem Value :=
  match rv with
  | .tmp t => pure (tmps.getD t undef)
  | .cell a t => do loadVar t (← Go.asAddr (tmps.getD a undef))
theorem results_eq (fn : Func) (tmps : Array Value) : results fn tmps = (do let vs ← fn.results.mapM (resOf tmps); pure (if h : vs.size = 1 then vs[0] else .tuple vs)) := by
  unfold results
  congr 1

theorem resK_sound (hT : TT.ok P T) {w0 w : World} {ρ : Loc} {a : Act} (R : Rel T P.globals.size w0 ρ H w) (E : EnvR ρ env a) : ∀ (rs : List ResultVar) (K : List Value → Prop), resK T rs env H K →
    ∃ l l', K l ∧ VRs ρ l l' ∧ (rs.mapM (resOf a.tmps)).run P w = .ok l' w
  | [], K, h => ⟨[], [], h, .nil, rfl⟩
  | .tmp t :: rs, K, h => by
    obtain ⟨l, l', h1, h2, h3⟩ := resK_sound hT R E rs (fun l => K (env.getD t undef :: l)) h
    have hv := aev_rel R.glob E (x := .tmp t) rfl
    refine ⟨_, _, h1, .cons _ _ _ _ hv h2, ?_⟩
    simp only [List.mapM_cons, resOf, Sem.run_bind, Sem.run_pure, Result.andThen_ok, h3]
    rfl
  | .cell x t :: rs, K, h => by
    obtain ⟨b, o, hb, h⟩ := asP_elim h
    have hv := aev_rel R.glob E (x := .tmp x) rfl
    simp only [aev] at hv
    rw [hb] at hv
    obtain ⟨r, hr, hv⟩ := hv.ptr_inv
    obtain ⟨v, v', g1, g2, g3⟩ := ldT_sound hT R h hr rfl
    obtain ⟨l, l', h1, h2, h3⟩ := resK_sound hT R E rs (fun l => K (v :: l)) g1
    refine ⟨_, _, h1, .cons _ _ _ _ g2 h2, ?_⟩
    simp only [Act.eval] at hv
    simp only [List.mapM_cons, resOf, Sem.run_bind, hv, Go.asAddr, Sem.run_pure, Result.andThen_ok, g3, h3]

/-- From a function's code to its calls. -/
theorem AC.of_code (hT : TT.ok P T) {f : FuncId} {fn : Func} {args : List Value} {Post : Value → AHeap → Prop} (hf : P.funcs[f]? = some fn) (hb : fn.body = some c) (hn : (fn.name == "runtime.NumGoroutine") = false)
    (h : AW P T c (args ++ List.replicate (fn.ntmps - args.length) undef) H (retQ T fn Post)) : AC P T f args H Post := by
  refine ⟨⟨fn, hf, hn, by simp [hb]⟩, ?_⟩
  intro w0 w ρ args' R hv
  refine calls_of_wp hf hb ?_
  have E : EnvR ρ (args ++ List.replicate (fn.ntmps - args.length) undef) { tmps := (⟨args'⟩ : Array Value) ++ Array.replicate (fn.ntmps - (⟨args'⟩ : Array Value).size) undef, defers := [] } := by
    refine ⟨?_, rfl⟩
    have := hv.append (VRs.replicate (VR.undef ρ) (fn.ntmps - args.length))
    simpa [hv.length] using this
  refine wp_mono (h w0 w ρ _ R E) ?_
  rintro e a' w' ⟨env', H', ρ', h1, h2, h3, h4⟩
  have fin : resK T fn.results.toList env' H' (fun l => Post (retV l) H') → ∃ v, (results fn a'.tmps).run P w' = .ok v w' ∧ (∃ u u' ρ'' H'', Ending.returned v = .returned u' ∧ Post u H'' ∧ ρ.le ρ'' ∧ VR ρ'' u u' ∧ Rel T P.globals.size w0 ρ'' H'' w') := by
    intro hr
    obtain ⟨l, l', g1, g2, g3⟩ := resK_sound hT h4 h3 _ _ hr
    have hm : (fn.results.mapM (resOf a'.tmps)).run P w' = .ok l'.toArray w' := by
      rw [← Array.toArray_toList (xs := fn.results), List.mapM_toArray, Sem.run_map, g3]; rfl
    refine ⟨if h : l'.toArray.size = 1 then l'.toArray[0] else .tuple l'.toArray, ?_, retV l, _, ρ', H', rfl, g1, h2, ?_, h4⟩
    · rw [results_eq, Sem.run_bind, hm]; rfl
    · cases g2 with
      | nil => exact .tuple _ _ .nil
      | cons x x' xs xs' k1 k2 =>
        cases k2 with
        | nil => simpa [retV] using k1
        | cons y y' ys ys' k3 k4 =>
          simp only [retV]
          exact .tuple _ _ (.cons _ _ _ _ k1 (.cons _ _ _ _ k3 k4))
  cases e with
  | normal => obtain ⟨v, k1, k2⟩ := fin h1; exact ⟨h3.defers, v, k1, k2⟩
  | ret => obtain ⟨v, k1, k2⟩ := fin h1; exact ⟨h3.defers, v, k1, k2⟩
  | exit id => exact h1.elim
  | goto l => exact h1.elim
  | panic ch => exact h1.elim
  | outgrown => exact h1.elim
end
end Go.Abs
