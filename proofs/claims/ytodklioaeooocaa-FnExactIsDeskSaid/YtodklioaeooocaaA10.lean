/- Calls, regions and code: the triples over the abstract heap, and their rules. -/
import Derived.Test.YtodklioaeooocaaA9
import Derived.Laws.Panics
set_option linter.unusedVariables false
set_option linter.unusedSimpArgs false
namespace Go.Abs
open Go.RowKit

/-- A call, over the abstract heap: whatever memory the arguments lie in, it returns, and what it returns and leaves is as Post says. -/
def AC (P : Program) (T : TT) (f : FuncId) (args : List Value) (H : AHeap) (Post : Value → AHeap → Prop) : Prop :=
  (∃ fn, P.funcs[f]? = some fn ∧ (fn.name == "runtime.NumGoroutine") = false ∧ fn.body.isNone = false) ∧
  ∀ (w0 w : World) (ρ : Loc) (args' : List Value), Rel T P.globals.size w0 ρ H w → VRs ρ args args' →
    Calls P f ⟨args'⟩ w fun e w' => ∃ v v' ρ' H', e = .returned v' ∧ Post v H' ∧ ρ.le ρ' ∧ VR ρ' v v' ∧ Rel T P.globals.size w0 ρ' H' w'

theorem AC.mono {P : Program} {T : TT} {f : FuncId} {args : List Value} {H : AHeap} {Post Post' : Value → AHeap → Prop} (h : AC P T f args H Post) (hp : ∀ v H', Post v H' → Post' v H') : AC P T f args H Post' :=
  ⟨h.1, fun w0 w ρ args' R hv => (h.2 w0 w ρ args' R hv).mono fun e w' ⟨v, v', ρ', H', h1, h2, h3⟩ => ⟨v, v', ρ', H', h1, hp _ _ h2, h3⟩⟩

/-- The builtins that read or reckon. -/
def bltK (T : TT) (b : Builtin) (args : List Value) (K : Value → Prop) : Prop :=
  match b, args with
  | .len, [v] => lenK v fun n => K (.int .i64 n)
  | .min, [.int k x, .int k' y] => pif (decide (k = k')) (K (.int k (if y < x then y else x))) False
  | .max, [.int k x, .int k' y] => pif (decide (k = k')) (K (.int k (if y > x then y else x))) False
  | _, _ => False

/-- A call of a function's value. -/
def callV (P : Program) (T : TT) (f : Value) (args : List Value) (H : AHeap) (K : Value → AHeap → Prop) : Prop :=
  match f with
  | .func (.func g) ⟨first⟩ ⟨captured⟩ => AC P T g (first ++ args ++ captured) H K
  | _ => False

/-- One operation. -/
def aOp (P : Program) (T : TT) (o : Oper) (ev : Operand → Value) (H : AHeap) (K : Value → AHeap → Prop) : Prop :=
  match o.op with
  | .call c => match c.callee with
    | .builtin .append => match c.argTypes.toList, c.args.toList with
      | [t, t2], [s, x] => match T t, T t2 with
        | some ⟨.slice e, _, _, _⟩, some ⟨.slice _, _, _, _⟩ => apK T e H (ev s) (ev x) K
        | _, _ => False
      | _, _ => False
    | .builtin .len => match c.argTypes.toList, c.args.toList with
      | [t], [x] => match T t with
        | some ⟨.slice _, _, _, _⟩ => lenK (ev x) fun n => K (.int .i64 n) H
        | some ⟨.string, _, _, _⟩ => asS (ev x) fun s => K (.int .i64 s.size) H
        | some ⟨.array n _, _, _, _⟩ => K (.int .i64 n) H
        | _ => False
      | _, _ => False
    | .builtin b => bltK T b (c.args.toList.map ev) fun v => K v H
    | .value f => callV P T (ev f) (c.args.toList.map ev) H fun v H' => match T o.type with
        | some ti => shapeR ti.zero v fun v => K v H'
        | none => False
    | _ => False
  | .alloc _ | .box _ _ | .buildSlice _ _ _ | .makeSlice _ _ _ | .store _ _ _ => aEf T o.op ev H K
  | op => aRd T op ev H fun v => K v H

/-- What a guard asks. -/
def guardK (ops : List Oper) (o : Oper) (env : Env) (K : Env → Bool → Prop) : Prop :=
  match o.guard with
  | none => K env true
  | some (j, want) =>
    match (ops[j]?).bind (·.dst) with
    | none => K env false
    | some t => match env[t]? with
      | some (.bool b) => pif b (K (env.set t (.bool true)) (true == want)) (K (env.set t (.bool false)) (false == want))
      | some (.tuple ⟨[]⟩) => K env false
      | _ => False

/-- The operations of a region, in the order of a list. -/
def aOps (P : Program) (T : TT) (all : List Oper) : List Oper → Env → AHeap → (Env → AHeap → Prop) → Prop
  | [], env, H, K => K env H
  | o :: rest, env, H, K => pif (o.op.operands.toList.all (operandOK P.globals.size)) (guardK all o env fun env b =>
      pif b (aOp P T o (aev env) H fun v H' => aOps P T all rest (Env.put env o.dst v) H' K) (aOps P T all rest (Env.put env o.dst undef) H K)) False

section
variable {P : Program} {T : TT} {w0 w : World} {ρ : Loc} {H : AHeap} {env : Env} {a : Act} {o : Oper}

theorem two_ints {k k' : IntKind} {x y : Int} {l : List Value} (h : VRs ρ [.int k x, .int k' y] l) : l = [.int k x, .int k' y] := by
  cases h with
  | cons _ _ _ _ h t => cases t with
    | cons _ _ _ _ h2 t => cases t with
      | nil => rw [h.int_inv, h2.int_inv]

/-- One operation, concretely: what 'aOp' says comes true. -/
theorem aOp_sound (hT : TT.ok P T) (R : Rel T P.globals.size w0 ρ H w) (hv : ∀ x ∈ o.op.operands, VR ρ (aev env x) (a.eval x)) {K : Value → AHeap → Prop} (h : aOp P T o (aev env) H K)
    {next : Act → World → Prop} {Q : Exit → Act → World → Prop}
    (hn : ∀ v v' ρ' H' w', K v H' → ρ.le ρ' → VR ρ' v v' → Rel T P.globals.size w0 ρ' H' w' → next (a.put o.dst v') w') : o.wp P a w next Q := by
  have turns : ∀ {s : Sem Value} {K : Value → AHeap → Prop}, Turns P T P.globals.size w0 ρ w s K → execOp a.eval o = (do pure (.value (← s))) → (∀ v v' ρ' H' w', K v H' → ρ.le ρ' → VR ρ' v v' → Rel T P.globals.size w0 ρ' H' w' → next (a.put o.dst v') w') → o.wp P a w next Q := by
    intro s K ht he hn
    obtain ⟨v, v', ρ', H', w', h1, h2, h3, h4, h5⟩ := ht
    unfold Oper.wp
    rw [he]
    simp only [Sem.run_bind, h5, Result.andThen_ok, Sem.run_pure, Oper.upon]
    exact hn v v' ρ' H' w' h1 h2 h3 h4
  have gives : (∃ v v', K v H ∧ VR ρ v v' ∧ (execOp a.eval o).run P w = .ok (.value v') w) → o.wp P a w next Q := by
    rintro ⟨v, v', h1, h2, h3⟩
    unfold Oper.wp
    rw [h3]
    exact hn v v' ρ H w h1 (Loc.le_refl _) h2 R
  obtain ⟨dst, op, type, pos, after, guard⟩ := o
  cases op
  case call c =>
    simp only [aOp] at h
    have hargs : VRs ρ (c.args.toList.map (aev env)) (c.args.toList.map a.eval) := VRs.map_ev _ _ (fun x hx => hv x (by simp [Op.operands, Call.operands]; exact .inr (by simpa using hx)))
    have hmap : c.args.map a.eval = ⟨c.args.toList.map a.eval⟩ := by apply Array.ext'; simp
    split at h
    · rename_i hcal
      split at h
      · rename_i t t2 s x ht hx
        split at h
        · rename_i e _ _ _ e2 _ _ _ hi hi2
          have he : ∃ ti, T e = some ti := by
            unfold apK at h
            split at h
            · exact ⟨_, by assumption⟩
            · exact h.elim
          obtain ⟨ti, he⟩ := he
          have hxs : x ∈ c.args ∧ s ∈ c.args := by
            constructor <;> (rw [← Array.mem_toList_iff, hx]; simp)
          refine turns (append_turns hT R hi rfl hi2 (by intro k; simp) he type (hv s (by simp [Op.operands, Call.operands]; exact .inr hxs.2)) (hv x (by simp [Op.operands, Call.operands]; exact .inr hxs.1)) h) ?_ hn
          have e1 : c.argTypes = #[t, t2] := by apply Array.ext'; simpa using ht
          have e2 : c.args.map a.eval = #[a.eval s, a.eval x] := by rw [hmap, hx]; rfl
          simp only [execOp, resolve, hcal, e1, e2, pure_bind, invoke, builtin]
        · exact h.elim
      · exact h.elim
    · rename_i hcal
      split at h
      · rename_i t x ht hx
        have hxs : x ∈ c.args := by rw [← Array.mem_toList_iff, hx]; simp
        have hvx := hv x (by simp [Op.operands, Call.operands]; exact .inr hxs)
        have e1 : c.argTypes = #[t] := by apply Array.ext'; simpa using ht
        have e2 : c.args.map a.eval = #[a.eval x] := by rw [hmap, hx]; rfl
        have ex : execOp a.eval ⟨dst, .call c, type, pos, after, guard⟩ = (do pure (.value (← Builtin.len_ #[t] type #[a.eval x])) : Sem Next) := by
          simp only [execOp, resolve, hcal, e1, e2, pure_bind, invoke, builtin]
        split at h
        · rename_i hi
          have hu := run_underlying (w := w) hT hi
          obtain ⟨y, n, cp, e3, h⟩ := lenK_elim h
          rw [e3] at hvx
          have e4 : ∃ y' cp', a.eval x = .slice y' n cp' := by
            cases y with
            | none => exact ⟨_, _, hvx.scalar_inv rfl⟩
            | some y => obtain ⟨y', c', e, _⟩ := hvx.slice_inv; exact ⟨_, _, e⟩
          obtain ⟨y', cp', e4⟩ := e4
          exact gives ⟨_, _, h, .scalar _ rfl, by rw [ex]; simp [Builtin.len_, hu, e4, goInt]⟩
        · rename_i hi
          have hu := run_underlying (w := w) hT hi
          obtain ⟨s, e3, h⟩ := asS_elim h
          rw [e3] at hvx
          exact gives ⟨_, _, h, .scalar _ rfl, by rw [ex]; simp [Builtin.len_, hu, hvx.str_inv, goInt]⟩
        · rename_i hi
          have hu := run_underlying (w := w) hT hi
          exact gives ⟨_, _, h, .scalar _ rfl, by rw [ex]; simp [Builtin.len_, hu, goInt]⟩
        · exact h.elim
      · exact h.elim
    · rename_i b hb1 hb2 hcal
      unfold bltK at h
      split at h
      · exact absurd rfl hb2
      · rename_i k x k' y he
        rcases pif_true h with ⟨hk, h2⟩ | ⟨_, h2⟩
        · obtain rfl := of_decide_eq_true hk
          rw [he] at hargs
          have e2 : c.args.map a.eval = #[.int k x, .int k y] := by rw [hmap, two_ints hargs]
          refine gives ⟨_, _, h2, .scalar _ rfl, ?_⟩
          simp [execOp, resolve, hcal, e2, invoke, builtin, Builtin.min_, Builtin.min2]
        · exact h2.elim
      · rename_i k x k' y he
        rcases pif_true h with ⟨hk, h2⟩ | ⟨_, h2⟩
        · obtain rfl := of_decide_eq_true hk
          rw [he] at hargs
          have e2 : c.args.map a.eval = #[.int k x, .int k y] := by rw [hmap, two_ints hargs]
          refine gives ⟨_, _, h2, .scalar _ rfl, ?_⟩
          simp [execOp, resolve, hcal, e2, invoke, builtin, Builtin.max_, Builtin.max2]
        · exact h2.elim
      · exact h.elim
    · rename_i f hcal
      have hf := hv f (by simp [Op.operands, Call.operands, hcal])
      unfold callV at h
      split at h
      · rename_i g first captured hg
        rw [hg] at hf
        obtain ⟨x', y', hf, h1, h2⟩ := hf.func_inv
        obtain ⟨⟨fn, hfn, hnm, hbd⟩, hc⟩ := h
        have hcall := hc w0 w ρ _ R ((h1.append hargs).append h2)
        have ex : (execOp a.eval ⟨dst, .call c, type, pos, after, guard⟩).run P w = .ok (.enter g ⟨x' ++ c.args.toList.map a.eval ++ y'⟩) w := by
          simp only [execOp, resolve, hcal, hf, Deferred.ofValue, pure_bind, invoke, callFunc, Sem.run_bind, run_program, Result.andThen_ok, hfn, hnm, hbd, hmap]
          simp
        unfold Oper.wp
        rw [ex]
        simp only [Oper.upon]
        refine hcall.mono ?_
        rintro e w' ⟨v, v', ρ', H', rfl, hp, hle, hvv, R'⟩
        split at hp
        · exact hn v v' ρ' H' w' (shapeR_elim hp) hle hvv R'
        · exact hp.elim
      · exact h.elim
    · exact h.elim
  case alloc e =>
    simp only [aOp, aEf] at h
    split at h
    · rename_i ti he
      exact turns (alloc_turns hT R he h) rfl hn
    · exact h.elim
  case box e x =>
    simp only [aOp, aEf] at h
    split at h
    · rename_i ti he
      exact turns (box_turns hT R he (hv x (by simp [Op.operands])) h) rfl hn
    · exact h.elim
  case buildSlice t len parts =>
    simp only [aOp, aEf] at h
    split at h
    · rename_i hi
      split at h
      · rename_i ti he
        rcases pif_true h with ⟨hl, h⟩ | ⟨_, h⟩
        · have e1 : VRs ρ (List.map (·.2) (parts.toList.map fun p => (p.1, aev env p.2))) (List.map (·.2) (parts.toList.map fun p => (p.1, a.eval p.2))) := by
            have := VRs.map_ev (ρ := ρ) (aev env) a.eval (l := parts.toList.map (·.2)) (fun x hx => hv x (by simpa [Op.operands] using hx))
            rw [List.map_map, List.map_map] at this ⊢
            exact this
          have hb := buildSlice_turns hT R hi rfl he (of_decide_eq_true hl) (by simp [List.map_map]) e1 h
          refine turns hb ?_ hn
          have : (parts.map fun p => (p.1, a.eval p.2)) = ⟨parts.toList.map fun p => (p.1, a.eval p.2)⟩ := by
            apply Array.ext'; simp
          rw [← this]; rfl
        · exact h.elim
      · exact h.elim
    · exact h.elim
  case makeSlice t l c =>
    simp only [aOp, aEf] at h
    split at h
    · rename_i hi
      unfold mkK at h
      split at h
      · rename_i ti k n k' m he e1 e2
        obtain ⟨h0, h1, h2, h3, h⟩ := h
        have g1 := hv l (by simp [Op.operands])
        have g2 := hv c (by simp [Op.operands])
        rw [e1] at g1
        rw [e2] at g2
        exact turns (makeSlice_turns (k := k) (k' := k') hT R hi rfl he h0 h1 h2 h3 h) (by simp [execOp, g1.int_inv, g2.int_inv]) hn
      · exact h.elim
    · exact h.elim
  case store t p x =>
    simp only [aOp, aEf] at h
    split at h
    · rename_i ti ht
      obtain ⟨H', w', h1, h2, h3⟩ := store_turns hT R ht (hv x (by simp [Op.operands])) (hv p (by simp [Op.operands])) (K := fun H' => K undef H') h
      unfold Oper.wp
      simp only [execOp, Sem.run_bind, h3, Result.andThen_ok, Sem.run_pure, Oper.upon]
      exact hn undef undef ρ H' w' h1 (Loc.le_refl _) (VR.undef _) h2
    · exact h.elim
  all_goals exact gives (aRd_sound hT R hv (K := fun v => K v H) h)

/-- The values of one temporary fit. -/
def FitAt (ρ : Loc) (env : Env) (a : Act) (t : Nat) : Prop := VR ρ (env.getD t undef) (a.tmps.toList.getD t undef)
theorem FitAt.get {t : Nat} (hl : env.length = a.tmps.size) (h : FitAt ρ env a t) {v : Value} (hv : env[t]? = some v) : ∃ v', a.tmps[t]? = some v' ∧ VR ρ v v' := by
  have hlt := lt_of_get hv
  have hlt' : t < a.tmps.size := by omega
  refine ⟨a.tmps[t], Array.getElem?_eq_getElem hlt', ?_⟩
  unfold FitAt at h
  simp [List.getD, hv, hlt'] at h
  exact h
theorem EnvR.fit (E : EnvR ρ env a) (t : Nat) : FitAt ρ env a t := E.vals.getD t (VR.undef ρ)

theorem set_self {env : Env} {t : Nat} {v : Value} (h : env[t]? = some v) : env.set t v = env := by
  apply List.ext_getElem?
  intro i
  by_cases hi : i = t
  · subst hi; rw [List.getElem?_set_self (lt_of_get h), h]
  · rw [List.getElem?_set_ne (by omega)]

/-- The temporary that a guard looks at. -/
def guardTmp (all : List Oper) (o : Oper) : Option Tmp := o.guard.bind fun g => (all[g.1]?).bind (·.dst)
theorem guardK_sound {all : List Oper} {K : Env → Bool → Prop} (hl : env.length = a.tmps.size) (E : ∀ t, guardTmp all o = some t → FitAt ρ env a t) (h : guardK all o env K) : ∃ b, K env b ∧ Region.wanted o (yielded all.toArray a.tmps) = b := by
  unfold guardK at h
  split at h
  · rename_i hg; exact ⟨true, h, by simp [Region.wanted, hg]⟩
  · rename_i j want hg
    split at h
    · rename_i ht
      refine ⟨false, h, ?_⟩
      have : yielded all.toArray a.tmps j = none := by
        simp only [yielded, List.getElem?_toArray, ht, Option.bind_none]
      simp [Region.wanted, hg, this]
    · rename_i t ht
      split at h
      · rename_i b hb
        obtain ⟨v', hv', hvr⟩ := FitAt.get hl (E t (by simp [guardTmp, hg, ht])) hb
        have hv' : a.tmps[t]? = some (.bool b) := by rw [hv', hvr.bool_inv]
        have hy : yielded all.toArray a.tmps j = some b := by
          simp only [yielded, List.getElem?_toArray, ht, Option.bind_some, hv']
        rcases pif_true h with ⟨rfl, h⟩ | ⟨rfl, h⟩
        · rw [set_self hb] at h
          exact ⟨_, h, by simp only [Region.wanted, hg, hy]; cases want <;> rfl⟩
        · rw [set_self hb] at h
          exact ⟨_, h, by simp only [Region.wanted, hg, hy]; cases want <;> rfl⟩
      · rename_i hb
        obtain ⟨v', hv', hvr⟩ := FitAt.get hl (E t (by simp [guardTmp, hg, ht])) hb
        have hv' : a.tmps[t]? = some (.tuple ⟨[]⟩) := by
          rw [hv']
          obtain ⟨l, rfl, hl⟩ := hvr.tuple_inv
          cases hl; rfl
        have hy : yielded all.toArray a.tmps j = none := by
          simp only [yielded, List.getElem?_toArray, ht, Option.bind_some, hv']
        exact ⟨false, h, by simp [Region.wanted, hg, hy]⟩
      · exact h.elim

/-- The operations of a region, one after the other. -/
theorem aOps_sound (hT : TT.ok P T) {all : List Oper} {Q : Exit → Act → World → Prop} {K : Env → AHeap → Prop} : ∀ (rest : List Oper) (env : Env) (H : AHeap) (ρ : Loc) (a : Act) (w : World),
    Rel T P.globals.size w0 ρ H w → EnvR ρ env a → aOps P T all rest env H K →
    (∀ env' H' ρ' a' w', K env' H' → ρ.le ρ' → EnvR ρ' env' a' → Rel T P.globals.size w0 ρ' H' w' → Q .normal a' w') → wpList P all.toArray Q rest a w
  | [], env, H, ρ, a, w, R, E, h, hq => hq env H ρ a w h (Loc.le_refl _) E R
  | o :: rest, env, H, ρ, a, w, R, E, h, hq => by
    rcases pif_true h with ⟨hok, h⟩ | ⟨_, h⟩
    · have hok' : ∀ x ∈ o.op.operands, operandOK P.globals.size x = true := fun x hx => List.all_eq_true.1 hok x (by simpa using hx)
      obtain ⟨b, h, hw⟩ := guardK_sound (by simpa using E.vals.length) (fun t _ => E.fit t) h
      unfold wpList
      cases b with
      | true =>
        rw [if_pos hw]
        left
        refine aOp_sound hT R (fun x hx => aev_rel R.glob E (hok' x hx)) (show aOp P T o (aev env) H _ from h) ?_
        intro v v' ρ' H' w' hk hle hvv R'
        exact aOps_sound hT rest _ H' ρ' _ w' R' ((E.mono hle).put hvv) hk (fun env' H' ρ'' a' w' k1 k2 => hq env' H' ρ'' a' w' k1 (Loc.le_trans hle k2))
      | false =>
        rw [if_neg (by simp [hw])]
        exact aOps_sound hT rest _ H ρ _ w R (E.put (VR.undef ρ)) h hq
    · exact h.elim
end
end Go.Abs
