/- Operations that read or reckon: the model gives what the abstract ones give. -/
import Derived.Test.YtodklioaeooocaaA2
import Derived.Laws.Sem
set_option linter.unusedVariables false
set_option linter.unusedSimpArgs false
namespace Go.Abs
open Go.RowKit

def constOK : Value → Bool
  | .agg ⟨l⟩ => l.all scalar
  | .tuple ⟨l⟩ => l.all scalar
  | .func (.func _) ⟨[]⟩ ⟨[]⟩ => true
  | v => scalar v
def operandOK (G : Nat) : Operand → Bool
  | .const v => constOK v
  | .global g => decide (g < G)
  | _ => true

structure EnvR (ρ : Loc) (env : Env) (a : Act) : Prop where
  vals : VRs ρ env a.tmps.toList
  defers : a.defers = []

theorem VRs.scalars {ρ : Loc} : ∀ {l : List Value}, l.all scalar = true → VRs ρ l l
  | [], _ => .nil
  | v :: l, h => by
    simp at h
    exact .cons _ _ _ _ (.scalar v h.1) (VRs.scalars (by simpa using h.2))

theorem VR.const {ρ : Loc} {v : Value} (h : constOK v = true) : VR ρ v v := by
  unfold constOK at h
  split at h
  · exact .agg _ _ (VRs.scalars h)
  · exact .tuple _ _ (VRs.scalars h)
  · exact .func _ _ _ _ _ .nil .nil
  · exact .scalar _ h

section
variable {P : Program} {T : TT} {G : Nat} {w0 w : World} {ρ : Loc} {H : AHeap} {env : Env} {a : Act}

theorem aev_rel (hg : ∀ g, g < G → ∃ N s, ρ g = some ⟨g, 0, N, s⟩) (E : EnvR ρ env a) {x : Operand} (hx : operandOK G x = true) : VR ρ (aev env x) (a.eval x) := by
  cases x with
  | tmp t =>
    have := E.vals.getD t (VR.undef ρ)
    simp only [aev, Act.eval]
    rw [show a.tmps.getD t undef = a.tmps.toList.getD t undef by simp [Array.getD, List.getD]; split <;> simp_all]
    exact this
  | const v => exact VR.const hx
  | global g =>
    obtain ⟨N, s, h⟩ := hg g (by simpa [operandOK] using hx)
    exact .ptr ⟨g, 0, none⟩ ⟨g, 0, none⟩ _ h rfl rfl
  | func f => exact .func f [] [] [] [] .nil .nil

theorem EnvR.put {d : Option Tmp} {v v' : Value} (E : EnvR ρ env a) (h : VR ρ v v') : EnvR ρ (env.put d v) (a.put d v') := by
  cases d with
  | none => exact E
  | some d => exact ⟨by simpa [Env.put, Act.put] using E.vals.set d h, E.defers⟩
theorem EnvR.mono {ρ' : Loc} (h : ρ.le ρ') (E : EnvR ρ env a) : EnvR ρ' env a := ⟨E.vals.mono h, E.defers⟩

theorem run_underlying (hT : TT.ok P T) {t : TypeId} {i : TI} (h : T t = some i) : (underlying t).run P w = .ok i.desc w := by
  obtain ⟨h1, _⟩ := hT t i h
  simp [underlying, h1]
theorem run_sizeOf (hT : TT.ok P T) {t : TypeId} {i : TI} (h : T t = some i) : (sizeOf t).run P w = .ok i.size w := by
  obtain ⟨_, j, h1, h2, h3, h4⟩ := hT t i h
  simp [sizeOf, typeInfo, h1, h2]
theorem run_zeroValue (hT : TT.ok P T) {t : TypeId} {i : TI} (h : T t = some i) : (zeroValue t).run P w = .ok i.zero w := by
  obtain ⟨_, j, h1, h2, h3, h4⟩ := hT t i h
  simp [zeroValue, typeInfo, h1, h4]
theorem run_typeInfo (hT : TT.ok P T) {t : TypeId} {i : TI} (h : T t = some i) : ∃ j, (typeInfo t).run P w = .ok j w ∧ j.size = i.size ∧ j.bytes = i.bytes ∧ j.zero = some i.zero := by
  obtain ⟨_, j, h1, h2, h3, h4⟩ := hT t i h
  exact ⟨j, by simp [typeInfo, h1], h2, h3, h4⟩
def TI.isAgg (i : TI) : Bool := match i.desc with | .struct _ => true | .array _ _ => true | _ => false
theorem run_isAgg (hT : TT.ok P T) {t : TypeId} {i : TI} (h : T t = some i) : (isAgg t).run P w = .ok i.isAgg w := by
  unfold isAgg TI.isAgg
  rw [Sem.run_bind, run_underlying hT h]
  cases i.desc <;> rfl
theorem fine_agg {i : TI} (h : i.fine = true) : (∃ zs, i.zero = .agg ⟨zs⟩ ∧ zs.length = i.size ∧ i.isAgg = true) ∨ ((∀ zs, i.zero ≠ .agg zs) ∧ (∀ zs, i.zero ≠ .tuple zs) ∧ i.size = 1 ∧ i.isAgg = false) := by
  obtain ⟨d, s, b, z⟩ := i
  simp only [TI.isAgg]
  cases d <;> cases z <;> simp [TI.fine] at h ⊢ <;> first | exact h | (rename_i x; exact ⟨x.toList, by simp, by simpa using h⟩) | skip

theorem run_load_rel (R : Rel T G w0 ρ H w) {b o : Nat} {v : Value} (h : H.cell b o = some v) {c : Addr} {r : Blk} (hr : ρ b = some r) (hc : c = ⟨r.blk, r.sh + o, none⟩) :
    ∃ v', (load c).run P w = .ok v' w ∧ VR ρ v v' := by
  obtain ⟨_, r', v', hr', hv, hvr⟩ := R.cell h
  rw [hr] at hr'
  obtain rfl := Option.some.inj hr'
  refine ⟨v', ?_, hvr⟩
  subst hc
  simp [hv]

theorem Addr.add_eq (c : Addr) (h : c.spot = none) (n : Nat) : c.add n = ⟨c.block, c.off + n, none⟩ := by
  unfold Addr.add
  split
  · rename_i e; subst e; cases c; simp_all
  · rfl

theorem run_loadCellsFrom_rel (R : Rel T G w0 ρ H w) {b : Nat} {r : Blk} (hr : ρ b = some r) : ∀ (l : List Value) (o i : Nat) (c : Addr) (acc : Array Value),
    c = ⟨r.blk, r.sh + o, none⟩ → (∀ (j : Nat) v, l[j]? = some v → H.cell b (o + i + j) = some v) →
    ∃ l', (loadCellsFrom c i l.length acc).run P w = .ok (acc ++ l'.toArray) w ∧ VRs ρ l l'
  | [], o, i, c, acc, hc, h => ⟨[], by simp [loadCellsFrom], .nil⟩
  | v :: l, o, i, c, acc, hc, h => by
    have h0 := h 0 v (by simp)
    obtain ⟨v', hv', hvr⟩ := run_load_rel (P := P) R (b := b) (o := o + i) (v := v) (by simpa using h0) (c := c.add i) hr (by subst hc; rw [Addr.add_eq _ rfl]; simp [Nat.add_assoc])
    obtain ⟨l', hl', hvs⟩ := run_loadCellsFrom_rel R hr l o (i + 1) c (acc.push v') hc (fun j u hu => by
      have := h (j + 1) u (by simpa using hu); rw [← this]; congr 1; omega)
    refine ⟨v' :: l', ?_, .cons _ _ _ _ hvr hvs⟩
    simp only [List.length_cons, loadCellsFrom, Sem.run_bind, hv', Result.andThen_ok, hl']
    simp

theorem run_loadCells_rel (R : Rel T G w0 ρ H w) {b o : Nat} {r : Blk} (hr : ρ b = some r) {l : List Value} {c : Addr} (hc : c = ⟨r.blk, r.sh + o, none⟩)
    (h : ∀ (j : Nat) v, l[j]? = some v → H.cell b (o + j) = some v) :
    ∃ l', (loadCells c l.length).run P w = .ok l'.toArray w ∧ VRs ρ l l' := by
  obtain ⟨l', h1, h2⟩ := run_loadCellsFrom_rel (P := P) R hr l o 0 c #[] hc (by simpa using h)
  exact ⟨l', by simpa [loadCells] using h1, h2⟩

theorem ldT_sound (hT : TT.ok P T) (R : Rel T G w0 ρ H w) {t : TypeId} {b o : Nat} {K : Value → Prop} (h : ldT T t H b o K) {r : Blk} (hr : ρ b = some r) {c : Addr} (hc : c = ⟨r.blk, r.sh + o, none⟩) :
    ∃ v v', K v ∧ VR ρ v v' ∧ (loadVar t c).run P w = .ok v' w := by
  unfold ldT at h
  split at h
  · rename_i i hi
    rcases pif_true h with ⟨hf, h⟩ | ⟨_, h⟩
    · rcases fine_agg hf with ⟨zs, hz, hs, ha⟩ | ⟨hn, hn2, hs, ha⟩
      · simp only [hz] at h
        obtain ⟨l, hl, hcell, hk⟩ := ldCells_elim (K := fun l => K (.agg ⟨l⟩)) h
        obtain ⟨l', h1, h2⟩ := run_loadCells_rel (P := P) R hr hc hcell
        refine ⟨.agg ⟨l⟩, .agg ⟨l'⟩, hk, .agg _ _ h2, ?_⟩
        simp only [loadVar, Sem.run_bind, run_isAgg hT hi, ha, Result.andThen_ok, if_true, run_sizeOf hT hi]
        rw [← hs, ← hl, h1]; rfl
      · have h' : ld1 H b o fun v => shape1 i.zero v K := by
          revert h
          cases hz : i.zero <;> simp only [] <;> first | exact id | (intro h; exact ((hn _ hz).elim))
        obtain ⟨v, hv, h'⟩ := ld1_elim h'
        have hk := shape1_elim h'
        obtain ⟨v', h1, h2⟩ := run_load_rel (P := P) R hv hr hc
        refine ⟨v, v', hk, h2, ?_⟩
        simp only [loadVar, Sem.run_bind, run_isAgg hT hi, ha, Result.andThen_ok, Bool.false_eq_true, if_false, h1]
    · exact h.elim
  · exact h.elim

theorem VR.ptr_inv {b o : Nat} {v' : Value} (h : VR ρ (.pointer (some ⟨b, o, none⟩)) v') : ∃ r, ρ b = some r ∧ v' = .pointer (some ⟨r.blk, r.sh + o, none⟩) := by
  cases h with
  | scalar v h => simp [Abs.scalar] at h
  | ptr a c r h ha hc => subst hc; exact ⟨r, h, rfl⟩
theorem VR.scalar_inv {v v' : Value} (hs : Abs.scalar v = true) (h : VR ρ v v') : v' = v := by
  cases h <;> first | rfl | (simp [Abs.scalar] at hs)
theorem VR.slice_inv {x : Addr} {n c : Nat} {v' : Value} (h : VR ρ (.slice (some x) n c) v') : ∃ y c', v' = .slice (some y) n c' ∧ SR ρ x n c y c' := by
  cases h with
  | scalar v h => simp [Abs.scalar] at h
  | slice a c l cap cap' h => exact ⟨_, _, rfl, h⟩
theorem VR.agg_inv {l : List Value} {v' : Value} (h : VR ρ (.agg ⟨l⟩) v') : ∃ l', v' = .agg ⟨l'⟩ ∧ VRs ρ l l' := by
  cases h with
  | scalar v h => simp [Abs.scalar] at h
  | agg xs xs' h => exact ⟨_, rfl, h⟩
theorem VR.tuple_inv {l : List Value} {v' : Value} (h : VR ρ (.tuple ⟨l⟩) v') : ∃ l', v' = .tuple ⟨l'⟩ ∧ VRs ρ l l' := by
  cases h with
  | scalar v h => simp [Abs.scalar] at h
  | tuple xs xs' h => exact ⟨_, rfl, h⟩
theorem VR.func_inv {f : FuncId} {x y : List Value} {v' : Value} (h : VR ρ (.func (.func f) ⟨x⟩ ⟨y⟩) v') : ∃ x' y', v' = .func (.func f) ⟨x'⟩ ⟨y'⟩ ∧ VRs ρ x x' ∧ VRs ρ y y' := by
  cases h with
  | scalar v h => simp [Abs.scalar] at h
  | func _ _ _ _ _ h1 h2 => exact ⟨_, _, rfl, h1, h2⟩
theorem VR.int_inv {k : IntKind} {n : Int} {v' : Value} (h : VR ρ (.int k n) v') : v' = .int k n := VR.scalar_inv rfl h
theorem VR.bool_inv {n : Bool} {v' : Value} (h : VR ρ (.bool n) v') : v' = .bool n := VR.scalar_inv rfl h
theorem VR.str_inv {n : ByteArray} {v' : Value} (h : VR ρ (.string n) v') : v' = .string n := VR.scalar_inv rfl h
end
end Go.Abs
