/- A region whose order is drawn: the proof. -/
import Derived.Test.YtodklioaeooocaaA13
set_option linter.unusedVariables false
set_option linter.unusedSimpArgs false
namespace Go.Abs
open Go.RowKit

/-- An operation that has been reckoned, but not carried out yet. -/
structure Pend where
  i : Nat
  E : Env
  v : Value

section
variable {P : Program} {T : TT} {w0 w : World} {ρ : Loc} {H : AHeap} {env : Env} {a : Act}

/-- What has been reckoned of it. -/
def PF (P : Program) (T : TT) (l : List Oper) (o : Oper) (E : Env) (v : Value) (H : AHeap) : Prop :=
  (∀ x ∈ o.op.operands, operandOK P.globals.size x = true) ∧ guardK l o E fun E' b => E' = E ∧ pif b (aOp P T o (aev E) H fun u G => u = v ∧ G = H) (v = undef)

structure SInv (P : Program) (T : TT) (l : List Oper) (w0 : World) (listed : Array Bool) (done todo : List Nat) (pend : List Pend) (env : Env) (H : AHeap) (ρ : Loc) (a : Act) (w : World) : Prop where
  all : ∀ i, i < l.length → i ∈ done ∨ i ∈ todo
  apart : ∀ i, i ∈ done → i ∉ todo
  lt : ∀ i, i ∈ done ∨ i ∈ todo → i < l.length
  ndT : todo.Nodup
  ndP : (pend.map (·.i)).Nodup
  size : listed.size = l.length
  exec : ∀ i, i < l.length → (listed[i]? = some true ↔ i ∈ done ∧ ∀ p ∈ pend, p.i ≠ i)
  down : ∀ j, listed[j]? = some true → ∀ p ∈ predsOf (opAt l j), listed[p]? = some true
  downD : ∀ j, j ∈ done → ∀ p ∈ predsOf (opAt l j), p ∈ done
  len : env.length = a.tmps.size
  defers : a.defers = []
  fit : ∀ t, (∀ p ∈ pend, (opAt l p.i).dst ≠ some t) → FitAt ρ env a t
  rel : Rel T P.globals.size w0 ρ H w
  pin : ∀ p ∈ pend, p.i ∈ done
  peff : ∀ p ∈ pend, isEff (opAt l p.i) = false
  pval : ∀ p ∈ pend, ∀ t, (opAt l p.i).dst = some t → t < env.length → env[t]? = some p.v
  plen : ∀ p ∈ pend, p.E.length = env.length
  pf : ∀ p ∈ pend, PF P T l (opAt l p.i) p.E p.v H
  pops : ∀ p ∈ pend, ∀ t ∈ looks l (opAt l p.i), (FitAt ρ p.E a t ∧ ∀ r ∈ pend, r.i ≠ p.i → (opAt l r.i).dst = some t → bef (masks l []) r.i p.i = false) ∨ ∃ q ∈ pend, q.i ≠ p.i ∧ (opAt l q.i).dst = some t ∧ bef (masks l []) q.i p.i = true ∧ (t < env.length → p.E[t]? = some q.v)

theorem nodup_inj {f : Pend → Nat} : ∀ {l : List Pend}, (l.map f).Nodup → ∀ {p q : Pend}, p ∈ l → q ∈ l → f p = f q → p = q
  | [], _, _, _, h, _, _ => by cases h
  | x :: l, hn, p, q, hp, hq, e => by
    rw [List.map_cons, List.nodup_cons] at hn
    rcases List.mem_cons.1 hp with h1 | h1 <;> rcases List.mem_cons.1 hq with h2 | h2
    · rw [h1, h2]
    · exact absurd (List.mem_map.2 ⟨q, h2, by rw [← e, h1]⟩) hn.1
    · exact absurd (List.mem_map.2 ⟨p, h1, by rw [e, h2]⟩) hn.1
    · exact nodup_inj hn.2 h1 h2 e

theorem filter_len {i : Nat} : ∀ {l : List Pend}, (l.map (·.i)).Nodup → ∀ {p : Pend}, p ∈ l → (l.filter (·.i != p.i)).length + 1 = l.length
  | [], _, _, h => by cases h
  | x :: l, hn, p, hp => by
    rw [List.map_cons, List.nodup_cons] at hn
    rcases List.mem_cons.1 hp with h1 | hp'
    · have : l.filter (·.i != p.i) = l := by
        rw [List.filter_eq_self]
        intro q hq
        simp only [bne_iff_ne]
        intro e
        exact hn.1 (List.mem_map.2 ⟨q, hq, by rw [e, h1]⟩)
      simp only [List.filter_cons, ← h1, bne_self_eq_false, Bool.false_eq_true, if_false, this, List.length_cons]
    · have : (x.i != p.i) = true := by
        simp only [bne_iff_ne]
        intro e
        exact hn.1 (List.mem_map.2 ⟨p, hp', e.symm⟩)
      simp only [List.filter_cons, this, if_true, List.length_cons, filter_len (i := i) hn.2 hp']

theorem stK_mono {b o : Nat} {cs : List Value} {K K' : AHeap → Prop} (h : stK H b o cs K) (hk : ∀ x, K x → K' x) : stK H b o cs K' := by
  unfold stK at h ⊢
  split at h
  · exact ⟨h.1, h.2.1, hk _ h.2.2⟩
  · exact h.elim
theorem newK_mono {cs : List Value} {e : TypeId} {K K' : Nat → AHeap → Prop} (h : newK H cs e K) (hk : ∀ b x, K b x → K' b x) : newK H cs e K' := by
  rcases pif_true h with ⟨h1, h⟩ | ⟨_, h⟩
  · exact pif_mk h1 (hk _ _ h)
  · exact h.elim
theorem zeroK_mono {i : TI} {K K' : List Value → Prop} (h : zeroK i K) (hk : ∀ x, K x → K' x) : zeroK i K' := by
  unfold zeroK at h ⊢
  split at h
  · rcases pif_true h with ⟨h1, h⟩ | ⟨_, h⟩
    · exact pif_mk h1 (hk _ h)
    · exact h.elim
  · rcases pif_true h with ⟨h1, h⟩ | ⟨_, h⟩
    · exact pif_mk h1 (hk _ h)
    · exact h.elim
theorem shapeC_mono {z v : Value} {K K' : Value → Prop} (h : shapeC z v K) (hk : ∀ x, K x → K' x) : shapeC z v K' := by
  unfold shapeC at h ⊢
  split at h
  · split at h
    · obtain ⟨a, rfl, h2⟩ := agg1_elim h; exact shape1_mono h2 fun a h => hk _ h
    · obtain ⟨a, b, rfl, h2⟩ := agg2_elim h; exact shape1_mono h2 fun a h => shape1_mono h fun b h => hk _ h
    · obtain ⟨a, b, c, rfl, h2⟩ := agg3_elim h; exact shape1_mono h2 fun a h => shape1_mono h fun b h => shape1_mono h fun c h => hk _ h
    · obtain ⟨a, b, c, d, rfl, h2⟩ := agg4_elim h; exact shape1_mono h2 fun a h => shape1_mono h fun b h => shape1_mono h fun c h => shape1_mono h fun d h => hk _ h
    · exact h.elim
  · exact shape1_mono h hk
theorem shapeR_mono {z v : Value} {K K' : Value → Prop} (h : shapeR z v K) (hk : ∀ x, K x → K' x) : shapeR z v K' := by
  unfold shapeR at h ⊢
  split at h
  · split at h
    · exact asTup_mono h fun vs h => hk _ h
    · obtain ⟨a, b, rfl, h2⟩ := tup2_elim h; exact shapeC_mono h2 fun a h => shapeC_mono h fun b h => hk _ h
    · obtain ⟨a, b, c, rfl, h2⟩ := tup3_elim h; exact shapeC_mono h2 fun a h => shapeC_mono h fun b h => shapeC_mono h fun c h => hk _ h
    · exact h.elim
  · exact shapeC_mono h hk
theorem apK_mono {e : TypeId} {s x : Value} {K K' : Value → AHeap → Prop} (h : apK T e H s x K) (hk : ∀ v G, K v G → K' v G) : apK T e H s x K' := by
  unfold apK at h ⊢
  split at h
  · obtain ⟨m, xs, h1, h2⟩ := h
    rcases h2 with ⟨h2, h3, h4⟩ | ⟨h2, n, ss, H', h3, h4, h5, h6, h7, h8⟩
    · exact ⟨m, xs, h1, .inl ⟨h2, h3, hk _ _ h4⟩⟩
    · exact ⟨m, xs, h1, .inr ⟨h2, n, ss, H', h3, h4, h5, h6, h7, hk _ _ h8⟩⟩
  · exact h.elim
theorem aOp_mono {o : Oper} (he : isEff o = true) {ev : Operand → Value} {K K' : Value → AHeap → Prop} (h : aOp P T o ev H K) (hk : ∀ v G, K v G → K' v G) : aOp P T o ev H K' := by
  obtain ⟨dst, op, type, pos, after, guard⟩ := o
  cases op <;> first | (simp [isEff] at he; done) | skip
  case alloc e =>
    simp only [aOp, aEf] at h ⊢
    split at h
    · exact zeroK_mono h fun cs h => newK_mono h fun b G h => hk _ _ h
    · exact h.elim
  case box e x =>
    simp only [aOp, aEf] at h ⊢
    split at h
    · exact cellsOf_mono h fun cs h => newK_mono h fun b G h => hk _ _ h
    · exact h.elim
  case buildSlice t len parts =>
    simp only [aOp, aEf] at h ⊢
    split at h
    · split at h
      · rcases pif_true h with ⟨h1, h⟩ | ⟨_, h⟩
        · exact pif_mk h1 (zeroK_mono h fun zs h => fillK_mono _ h fun cs h => newK_mono h fun b G h => hk _ _ h)
        · exact h.elim
      · exact h.elim
    · exact h.elim
  case makeSlice t l c =>
    simp only [aOp, aEf] at h ⊢
    split at h
    · unfold mkK at h ⊢
      split at h
      · obtain ⟨h0, h1, h2, h3, h⟩ := h
        exact ⟨h0, h1, h2, h3, zeroK_mono h fun zs h => hk _ _ h⟩
      · exact h.elim
    · exact h.elim
  case store t p x =>
    simp only [aOp, aEf] at h ⊢
    split at h
    · refine cellsOf_mono h fun cs h => ?_
      rcases pif_true h with ⟨h1, h⟩ | ⟨_, h⟩
      · exact pif_mk h1 (asP_mono h fun b o h => stK_mono h fun G h => hk _ _ h)
      · exact h.elim
    · exact h.elim
  case call c =>
    simp only [isEff] at he
    simp only [aOp] at h ⊢
    split at h
    · split at h
      · split at h
        · exact apK_mono h hk
        · exact h.elim
      · exact h.elim
    · rename_i hc; simp [hc] at he
    · rename_i b hb1 hb2 hc
      rw [hc] at he
      cases b <;> first | (simp at he; done) | (simp [bltK] at h; done) | exact absurd rfl hb1 | exact absurd rfl hb2
    · unfold callV at h ⊢
      split at h
      · refine h.mono fun v G h => ?_
        split at h
        · exact shapeR_mono h fun v h => hk _ _ h
        · exact h.elim
      · exact h.elim
    · exact h.elim

theorem guardK_one {l : List Oper} {o : Oper} {E : Env} {K : Env → Bool → Prop} (h : guardK l o E K) : ∃ b, K E b ∧ ∀ K' : Env → Bool → Prop, K' E b → guardK l o E K' := by
  unfold guardK at h ⊢
  split at h
  · exact ⟨true, h, fun _ k => k⟩
  · split at h
    · exact ⟨false, h, fun _ k => k⟩
    · split at h
      · rename_i hb
        rcases pif_true h with ⟨rfl, h⟩ | ⟨rfl, h⟩
        · rw [set_self hb] at h
          exact ⟨_, h, fun K' k => by show K' _ _; rw [set_self hb]; exact k⟩
        · rw [set_self hb] at h
          exact ⟨_, h, fun K' k => by show K' _ _; rw [set_self hb]; exact k⟩
      · exact ⟨false, h, fun _ k => k⟩
      · exact h.elim

theorem PF.le {l : List Oper} {o : Oper} {E : Env} {v : Value} {H' : AHeap} (he : isEff o = false) (h : PF P T l o E v H) (hh : H.le H' ∨ heapRd o = false) : PF P T l o E v H' := by
  obtain ⟨h1, h2⟩ := h
  obtain ⟨b, ⟨_, h3⟩, h4⟩ := guardK_one h2
  refine ⟨h1, h4 _ ⟨rfl, ?_⟩⟩
  rcases pif_true h3 with ⟨rfl, h3⟩ | ⟨rfl, h3⟩
  · rcases hh with hh | hh
    · obtain ⟨u, ⟨rfl, _⟩, h5⟩ := aOp_one he hh h3
      exact h5
    · exact aOp_noheap he hh h3
  · exact h3

theorem put_len (env : Env) (d : Option Tmp) (v : Value) : (Env.put env d v).length = env.length := by cases d <;> simp [Env.put]
theorem put_get_ne (env : Env) {d : Option Tmp} {t : Tmp} (v : Value) (h : d ≠ some t) : (Env.put env d v)[t]? = env[t]? := by
  cases d with
  | none => rfl
  | some d => simp only [Env.put]; rw [List.getElem?_set_ne (by simpa using h)]
theorem put_get_same (env : Env) {t : Tmp} (v : Value) (h : t < env.length) : (Env.put env (some t) v)[t]? = some v := by
  simp [Env.put, h]
theorem getD_eq {env env' : Env} {t : Nat} (h : env[t]? = env'[t]?) : env.getD t undef = env'.getD t undef := by simp [List.getD, h]

theorem FitAt.put_ne {d : Option Tmp} {t : Nat} {v v' : Value} (h : FitAt ρ env a t) (hd : d ≠ some t) : FitAt ρ (env.put d v) (a.put d v') t := by
  unfold FitAt at *
  rw [getD_eq (put_get_ne env v hd)]
  cases d with
  | none => exact h
  | some d =>
    simp only [Act.put, Array.toList_setIfInBounds]
    have : (a.tmps.toList.set d v')[t]? = a.tmps.toList[t]? := List.getElem?_set_ne (by simpa using hd)
    simpa [List.getD, this] using h
theorem FitAt.put_same {t : Nat} {v v' : Value} (hl : env.length = a.tmps.size) (hv : VR ρ v v') (he : t < env.length → env[t]? = some v) : FitAt ρ env (a.put (some t) v') t := by
  unfold FitAt
  by_cases ht : t < env.length
  · have : t < a.tmps.size := by omega
    simp [List.getD, he ht, Act.put, this]
    exact hv
  · have : ¬ t < a.tmps.size := by omega
    simp [List.getD, Act.put, List.getElem?_eq_none (show env.length ≤ t by omega), this]
    exact VR.undef ρ
theorem FitAt.act_ne {d : Option Tmp} {t : Nat} {v' : Value} (h : FitAt ρ env a t) (hd : d ≠ some t) : FitAt ρ env (a.put d v') t := by
  unfold FitAt at *
  cases d with
  | none => exact h
  | some d =>
    simp only [Act.put, Array.toList_setIfInBounds]
    have : (a.tmps.toList.set d v')[t]? = a.tmps.toList[t]? := List.getElem?_set_ne (by simpa using hd)
    simpa [List.getD, this] using h
theorem FitAt.mono {ρ' : Loc} (hle : ρ.le ρ') {t : Nat} (h : FitAt ρ env a t) : FitAt ρ' env a t := VR.mono hle h
theorem put_size (d : Option Tmp) (v : Value) : (a.put d v).tmps.size = a.tmps.size := by cases d <;> simp [Act.put]
theorem put_defers' (d : Option Tmp) (v : Value) : (a.put d v).defers = a.defers := by cases d <;> rfl

/-- The operands of an operation all of whose looks fit. -/
theorem vals_of_looks {l : List Oper} {o : Oper} {E : Env} (hg : ∀ g, g < P.globals.size → ∃ N s, ρ g = some ⟨g, 0, N, s⟩) (hok : ∀ x ∈ o.op.operands, operandOK P.globals.size x = true) (h : ∀ t ∈ looks l o, FitAt ρ E a t) :
    ∀ x ∈ o.op.operands, VR ρ (aev E x) (a.eval x) := by
  intro x hx
  cases x with
  | tmp t =>
    have ht : t ∈ looks l o := by
      unfold looks
      refine List.mem_append.2 (.inl (List.mem_filterMap.2 ⟨.tmp t, by simpa using hx, rfl⟩))
    have := h t ht
    unfold FitAt at this
    simp only [aev, Act.eval]
    rw [show a.tmps.getD t undef = a.tmps.toList.getD t undef by simp [Array.getD, List.getD]; split <;> simp_all]
    exact this
  | const v => exact VR.const (hok _ hx)
  | global g =>
    obtain ⟨N, s, h⟩ := hg g (by simpa [operandOK] using hok _ hx)
    exact .ptr ⟨g, 0, none⟩ ⟨g, 0, none⟩ _ h rfl rfl
  | func f => exact .func f [] [] [] [] .nil .nil

/-- The facts of a region that the check gives. -/
structure Told (l : List Oper) : Prop where
  preds : ∀ j, ∀ p ∈ predsOf (opAt l j), p < j
  tmps : ∀ i j t, i < l.length → j < l.length → i ≠ j → (opAt l i).dst = some t → (opAt l j).dst ≠ some t ∧ (t ∈ looks l (opAt l j) → bef (masks l []) i j = true ∨ bef (masks l []) j i = true)

theorem predsOf_default : predsOf (default : Oper) = [] := rfl

theorem chk_cons {l : List Oper} {ms : List Nat} {done : List Nat} {x : Nat} {need : Bool} {rest : List (Nat × Bool)} (h : chk l ms done ((x, need) :: rest) = true) :
    (∀ p ∈ predsOf (opAt l x), p ∈ done) ∧ (isEff (opAt l x) = true → ∀ y ∈ rest, ∃ p ∈ predsOf (opAt l y.1), p ∉ done) ∧
    (isEff (opAt l x) = true → need = true ∨ autoLe (opAt l x) = true ∨ ∀ y ∈ done, heapRd (opAt l y) = false ∨ bef ms y x = true) ∧ (isEff (opAt l x) = false → need = false) ∧ chk l ms (done ++ [x]) rest = true := by
  simp only [chk, Bool.and_eq_true, List.all_eq_true, Bool.or_eq_true, Bool.not_eq_true', List.any_eq_true, List.contains_iff_mem] at h
  obtain ⟨⟨⟨⟨h1, h2⟩, h3⟩, h4⟩, h5⟩ := h
  refine ⟨h1, fun he y hy => ?_, fun he => ?_, fun he => ?_, h5⟩
  · rcases h2 with h2 | h2
    · rw [he] at h2; cases h2
    · obtain ⟨p, hp, hn⟩ := h2 y hy
      exact ⟨p, hp, by simpa using hn⟩
  · rcases h3 with ((h3 | h3) | h3) | h3
    · rw [he] at h3; cases h3
    · exact .inl h3
    · exact .inr (.inl h3)
    · exact .inr (.inr fun y hy => by
        rcases h3 y hy with h | h
        · exact .inl h
        · exact .inr h)
  · rcases h4 with h4 | h4
    · rw [he] at h4; cases h4
    · exact h4
end
end Go.Abs
