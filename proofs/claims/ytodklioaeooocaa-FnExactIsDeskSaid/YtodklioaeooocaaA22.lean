/- What comes in: a law's run. -/
import Derived.Test.YtodklioaeooocaaA21
set_option linter.unusedVariables false
set_option linter.unusedSimpArgs false
namespace Go.Abs
open Go.RowKit Go.ChangeShapes

def isAg (T : TT) (t : TypeId) : Bool := match T t with | some ⟨.struct _, _, _, _⟩ => true | some ⟨.array _ _, _, _, _⟩ => true | _ => false
/-- A value of a type, as the abstract heap has it. -/
def AV (T : TT) (H : AHeap) (t : TypeId) (v : Value) : Prop := ∃ n cs, AT T H n t cs ∧ v = match isAg T t with | true => .agg ⟨cs⟩ | false => cs.headD undef
def AVs (T : TT) (H : AHeap) : List TypeId → List Value → Prop
  | [], vs => vs = []
  | t :: ts, vs => ∃ v vs', vs = v :: vs' ∧ AV T H t v ∧ AVs T H ts vs'

section
variable {Hd : Type} {enc : TypeId × Value → Hd} {P : Program} {T : TT} {G : Nat} {w : World} {ρ : Loc} {H : AHeap}

theorem supp_succ : ∀ (n : Nat) (t : TypeId), supp T n t = true → supp T (n + 1) t = true
  | 0, t, h => by simp [supp] at h
  | n + 1, t, h => by
    unfold supp at h ⊢
    split at h
    · split at h
      · exact h
      · exact h
      · exact h
      · simp only [Bool.and_eq_true] at h ⊢
        exact ⟨⟨supp_succ n _ h.1.1, h.1.2⟩, h.2⟩
      · simp only [Bool.and_eq_true, List.all_eq_true] at h ⊢
        exact ⟨⟨fun f hf => supp_succ n _ (h.1.1 f hf), h.1.2⟩, h.2⟩
      · simp only [Bool.and_eq_true] at h ⊢
        exact ⟨supp_succ n _ h.1, h.2⟩
      · cases h
    · cases h
theorem supp_le {n m : Nat} {t : TypeId} (hl : n ≤ m) (h : supp T n t = true) : supp T m t = true := by
  induction hl with
  | refl => exact h
  | step _ ih => exact supp_succ _ _ ih

theorem cells_agg {v : Value} (h : ∀ c, v ≠ .agg c) : v.cells = #[v] := by
  cases v <;> first | rfl | (exact absurd rfl (h _))

theorem AV.mono {H' : AHeap} (hl : H.le H') {t : TypeId} {v : Value} (h : AV T H t v) : AV T H' t v := by
  obtain ⟨n, cs, h1, h2⟩ := h
  exact ⟨n, cs, AT.mono hl h1, h2⟩

theorem lay_one (hT : TT.ok P T) {t : TypeId} {v : Value} {d : DataW Hd} {p : List MemPlace} {base : Nat} (h : DataW.Trod enc P w 0 (fun _ => true) true t v d p) (hs : supp T 8 t = true)
    (hv : Value.okWide P w .any base t v) (R : Rel T G w ρ H w) : ∃ ρ' H' v', H.le H' ∧ ρ.le ρ' ∧ Rel T G w ρ' H' w ∧ VR ρ' v' v ∧ AV T H' t v' := by
  obtain ⟨fuel, hf⟩ := h
  obtain ⟨ρ', H', cs', a1, a2, a3, a4, a5, a6⟩ := lay hT (max fuel 8) t _ _ (DataW.trod_le (Nat.le_max_left _ _) hf) (supp_le (Nat.le_max_right _ _) hs) ρ H R
  obtain ⟨ti, hti⟩ : ∃ ti, T t = some ti := by
    unfold supp at hs; split at hs
    · exact ⟨_, by assumption⟩
    · cases hs
  have hu := underlying_of hT hti
  unfold Value.okWide at hv
  rw [hu] at hv
  have agg : isAg T t = true → (∃ cs, v = .agg cs) → ∃ ρ' H' v', H.le H' ∧ ρ.le ρ' ∧ Rel T G w ρ' H' w ∧ VR ρ' v' v ∧ AV T H' t v' := by
    rintro hag ⟨⟨cs⟩, rfl⟩
    exact ⟨ρ', H', .agg ⟨cs'⟩, a1, a2, a3, .agg _ _ a4, _, cs', a6, by rw [hag]⟩
  have flat : isAg T t = false → (∀ c, v ≠ .agg c) → ∃ ρ' H' v', H.le H' ∧ ρ.le ρ' ∧ Rel T G w ρ' H' w ∧ VR ρ' v' v ∧ AV T H' t v' := by
    intro hag hne
    rw [cells_agg hne] at a4
    cases a4 with
    | cons x _ xs _ h t =>
      cases t
      exact ⟨ρ', H', x, a1, a2, a3, h, _, [x], a6, by rw [hag]; rfl⟩
  have nag : ∀ d, ti.desc = d → (∀ fs, d ≠ .struct fs) → (∀ m e, d ≠ .array m e) → isAg T t = false := by
    intro d hd h1 h2
    unfold isAg
    rw [hti]
    obtain ⟨dd, _, _, _⟩ := ti
    simp only at hd; subst hd
    cases dd <;> first | rfl | exact absurd rfl (h1 _) | exact absurd rfl (h2 _ _)
  unfold supp at hs
  rw [hti] at hs
  simp only at hs
  split at hs
  case h_5 fs hd =>
    rw [hd] at hv
    obtain ⟨cs, e, _⟩ := hv
    exact agg (by unfold isAg; rw [hti]; obtain ⟨dd, _, _, _⟩ := ti; simp only at hd; subst hd; rfl) ⟨cs, e⟩
  case h_6 m e hd =>
    rw [hd] at hv
    obtain ⟨cs, e, _⟩ := hv
    exact agg (by unfold isAg; rw [hti]; obtain ⟨dd, _, _, _⟩ := ti; simp only at hd; subst hd; rfl) ⟨cs, e⟩
  case h_7 => cases hs
  all_goals
    rename_i hd
    refine flat (nag _ hd (by intros; simp) (by intros; simp)) ?_
    rintro c rfl
    rw [hd] at hv
    simp only [Cell.okWide, hu, hd, Cell.ok] at hv

theorem lay_all (hT : TT.ok P T) {base : Nat} : ∀ (ts : List TypeId) (vs : List Value) (ds : List (DataW Hd)) (p : List MemPlace), DataW.TrodAll enc P w 0 (fun _ => true) true ts vs ds p → (ts.all fun t => supp T 8 t) = true →
    (∀ (j : Nat) t v, ts[j]? = some t → vs[j]? = some v → Value.okWide P w .any base t v) → ∀ ρ H, Rel T G w ρ H w → ∃ ρ' H' vs', H.le H' ∧ ρ.le ρ' ∧ Rel T G w ρ' H' w ∧ VRs ρ' vs' vs ∧ AVs T H' ts vs'
  | [], vs, ds, p, h, _, _, ρ, H, R => by
    have : vs = [] := by cases vs <;> cases ds <;> simp_all [DataW.TrodAll]
    subst this
    exact ⟨ρ, H, [], AHeap.le_refl _, Loc.le_refl _, R, .nil, rfl⟩
  | t :: ts, vs, ds, p, h, hs, hv, ρ, H, R => by
    obtain ⟨v, vs, d, ds, p, q, rfl, rfl, rfl, h1, h2⟩ := trodAll_cons h
    simp only [List.all_cons, Bool.and_eq_true] at hs
    obtain ⟨ρ1, H1, v', a1, a2, a3, a4, a5⟩ := lay_one hT h1 hs.1 (hv 0 t v rfl rfl) R
    obtain ⟨ρ2, H2, vs', b1, b2, b3, b4, b5⟩ := lay_all hT ts vs ds q h2 hs.2 (fun j t v h k => hv (j + 1) t v (by simpa using h) (by simpa using k)) ρ1 H1 a3
    exact ⟨ρ2, H2, v' :: vs', AHeap.le_trans a1 b1, Loc.le_trans a2 b2, b3, .cons _ _ _ _ (a4.mono b2) b4, v', vs', rfl, a5.mono b1, b5⟩

/-- A law's run: for whatever comes in it returns true, and nothing that was there has turned. -/
theorem law_run (hT : TT.ok P T) {f : FuncId} {ts : List TypeId} (hs : (ts.all fun t => supp T 8 t) = true) (hG : P.globals.size ≤ w.heap.size) (hAC : ∀ H vs, AVs T H ts vs → AC P T f vs H (fun v _ => v = .bool true))
    {args : Array Value} {ds : List (DataW Hd)} {p : List MemPlace} {base : Nat} (hA : DataW.TrodAll enc P w 0 (fun _ => true) true ts args.toList ds p)
    (hv : ∀ (j : Nat) t v, ts[j]? = some t → args[j]? = some v → Value.okWide P w .any base t v) : Calls P f args w fun e w' => e = .returned (.bool true) ∧ Below w.heap.size w w' := by
  have R0 : Rel T P.globals.size w (fun g => if g < P.globals.size then some ⟨g, 0, 0, 0⟩ else none) (List.replicate P.globals.size none) w := by
    have none : ∀ (b : Nat) o, (List.replicate P.globals.size (none : Option AObj))[b]? = some (some o) → False := by
      intro b o h
      rw [List.getElem?_replicate] at h
      split at h <;> simp at h
    refine ⟨Below.refl _ _, ?_, ?_, fun b cs e own h => (none _ _ h).elim, fun b b' o o' r r' h => (none _ _ h).elim, fun b es cl h => (none _ _ h).elim⟩
    · intro b r h
      by_cases hb : b < P.globals.size
      · rw [if_pos hb] at h
        obtain rfl := Option.some.inj h; simp; omega
      · rw [if_neg hb] at h; cases h
    · intro g hg
      exact ⟨0, 0, by simp [hg]⟩
  obtain ⟨ρ, H, vs, _, _, R, hvs, hat⟩ := lay_all hT ts _ ds p hA hs (fun j t v h k => hv j t v h (by simpa using k)) _ _ R0
  have := (hAC H vs hat).2 w w ρ args.toList R hvs
  refine this.mono fun e w' ⟨v, v', ρ', H', h1, h2, _, h3, h4⟩ => ?_
  subst h2
  cases h3 with
  | scalar _ _ => exact ⟨h1, h4.below⟩

theorem trodAll_below (hl : laidOutB P = true) {W W' : World} (hb : Below W.heap.size W W') : ∀ {ts : List TypeId} {vs : List Value} {ds : List (DataW Hd)} {ps : List MemPlace}, (ts.all fun t => P.readableRec t && Nat.blt t P.types.size) = true →
    DataW.TrodAll enc P W 0 (fun _ => true) true ts vs ds ps → DataW.TrodAll enc P W' 0 (fun b => decide (b < W.heap.size)) true ts vs ds ps
  | [], vs, ds, ps, _, h => by cases vs <;> cases ds <;> simp_all [DataW.TrodAll]
  | t :: ts, vs, ds, ps, hr, h => by
    obtain ⟨v, vs, d, ds, p, q, rfl, rfl, rfl, h1, h2⟩ := trodAll_cons h
    simp only [List.all_cons, Bool.and_eq_true] at hr
    have lt : ∀ x ∈ p, x.block < W.heap.size := by obtain ⟨m, hm⟩ := h1; exact DataW.trod_lt m _ _ _ hm
    exact ⟨p, q, Below.trod hl hr.1.1 (Nat.le_of_ble_eq_true hr.1.2) h1 hb lt, trodAll_below hl hb hr.2 h2, rfl⟩
end
end Go.Abs
