/- The rules in the form in which a program prints their use. -/
import Derived.Test.YtodklioaeooocaaA17
set_option linter.unusedVariables false
set_option linter.unusedSimpArgs false
namespace Go.Abs
open Go.RowKit

abbrev EP := Env → AHeap → Prop
def mkQ (K : EP) (X : Nat → EP) (Rt : EP) : Exit → Env → AHeap → Prop
  | .normal => K
  | .exit i => X i
  | .ret => Rt
  | _ => fun _ _ => False
def updX (X : Nat → EP) (id : Nat) (K : EP) : Nat → EP := fun i => if i = id then K else X i

section
variable {P : Program} {T : TT} {A B C K M Rt : EP} {X : Nat → EP} {c x y : Code}

theorem r_seq (h1 : ∀ env H, A env H → AW P T x env H (mkQ M X Rt)) (h2 : ∀ env H, M env H → AW P T y env H (mkQ K X Rt)) : ∀ env H, A env H → AW P T (.seq x y) env H (mkQ K X Rt) := by
  intro env H h
  refine AW.seq ((h1 env H h).mono ?_)
  intro e env H q
  cases e with
  | normal => exact h2 env H q
  | _ => exact q
theorem r_region (hT : TT.ok P T) {id : Nat} {l : List Oper} (h : ∀ env H, A env H → aOps P T l l env H K) : ∀ env H, A env H → AW P T (.region id ⟨l⟩ false) env H (mkQ K X Rt) :=
  fun env H ha => AW.region hT (h env H ha)
theorem r_draw (hT : TT.ok P T) (hm : P.follows .mixedOrders = true) {id : Nat} {l : List Oper} (τ : List (Nat × Bool)) (hc : drawOK l τ = true) (h : ∀ env H, A env H → aOpsD P T l (opsOf l τ) env H K) : ∀ env H, A env H → AW P T (.region id ⟨l⟩ true) env H (mkQ K X Rt) :=
  fun env H ha => AW.region_draw hT hm τ hc (h env H ha)
theorem r_cond {o : Operand} (ho : operandOK P.globals.size o = true) (hx : ∀ env H, B env H → AW P T x env H (mkQ K X Rt)) (hy : ∀ env H, C env H → AW P T y env H (mkQ K X Rt)) :
    ∀ env H, (asB (aev env o) fun b => pif b (B env H) (C env H)) → AW P T (.cond o x y) env H (mkQ K X Rt) := by
  intro env H h
  refine AW.cond ho (asB_mono h fun b h => ?_)
  cases b
  · exact hy env H h
  · exact hx env H h
theorem r_block {id : Nat} (h : ∀ env H, A env H → AW P T c env H (mkQ K (updX X id K) Rt)) : ∀ env H, A env H → AW P T (.block id c) env H (mkQ K X Rt) := by
  intro env H ha
  refine AW.block ((h env H ha).mono ?_)
  intro e env H q
  cases e with
  | exit i =>
    simp only [blockQ]
    simp only [mkQ, updX] at q
    split
    · rename_i hi; rw [if_pos hi] at q; exact q
    · rename_i hi; rw [if_neg hi] at q; exact q
  | _ => exact q
theorem r_skip : ∀ env H, K env H → AW P T .skip env H (mkQ K X Rt) := fun env H h => AW.skip h
theorem r_exit {id : Nat} (h : ∀ env H, A env H → X id env H) : ∀ env H, A env H → AW P T (.exit id) env H (mkQ K X Rt) := fun env H ha => AW.exit (h env H ha)
theorem r_ret : ∀ env H, Rt env H → AW P T .ret env H (mkQ K X Rt) := fun env H h => AW.ret h
theorem r_none : ∀ env H, False → AW P T c env H (mkQ K X Rt) := fun env H h => h.elim

theorem r_loop (J : Nat → EP) (h : ∀ n env H, J n env H → AW P T c env H (mkQ (fun env' H' => ∃ m, m < n ∧ J m env' H') X Rt)) : ∀ env H, (∃ n, J n env H) → AW P T (.loop c) env H (mkQ K X Rt) := by
  intro env H ⟨n, hn⟩ w0 w ρ a R E
  have key : ∀ (n : Nat) (env : Env) (H : AHeap) (ρ' : Loc) (a : Act) (w : World), J n env H → ρ.le ρ' → EnvR ρ' env a → Rel T P.globals.size w0 ρ' H w →
      ∀ (b : Frame) (k : List Item) (cs : List Frame), ∃ e a' w', lift P T w0 ρ (mkQ K X Rt) e a' w' ∧ Arrives P (lone (b.at a (.code c :: .inLoop c :: k)) cs w) b k cs e a' w' := by
    intro n
    induction n using Nat.strongRecOn with
    | _ n ih =>
      intro env H ρ' a w hI hle E R b k cs
      obtain ⟨e, a₁, w₁, ⟨env1, H1, ρ1, hq, hle1, E1, R1⟩, harr⟩ := h n env H hI w0 w ρ' a R E b (.inLoop c :: k) cs
      cases e with
      | normal =>
        obtain ⟨m, hlt, hI1⟩ := hq
        obtain ⟨e₂, a₂, w₂, hq₂, harr₂⟩ := ih m hlt env1 H1 ρ1 a₁ w₁ hI1 (Loc.le_trans hle hle1) E1 R1 b k cs
        exact ⟨e₂, a₂, w₂, hq₂, .of_steps (Steps.trans harr (.one step_inLoop)) harr₂⟩
      | exit id => exact ⟨.exit id, a₁, w₁, ⟨env1, H1, ρ1, hq, Loc.le_trans hle hle1, E1, R1⟩, .pass (x := .inLoop c) rfl (fun _ _ => .inl (by simp)) harr⟩
      | ret => exact ⟨.ret, a₁, w₁, ⟨env1, H1, ρ1, hq, Loc.le_trans hle hle1, E1, R1⟩, .pass (x := .inLoop c) rfl (fun _ _ => .inl (by simp)) harr⟩
      | goto l => exact hq.elim
      | panic ch => exact hq.elim
      | outgrown => exact hq.elim
  intro b k cs
  obtain ⟨e, a', w', hq, harr⟩ := key n env H ρ a w hn (Loc.le_refl _) E R b k cs
  exact ⟨e, a', w', hq, .of_steps (.one step_loop) harr⟩

theorem r_imp (h : ∀ env H, A env H → AW P T c env H (mkQ K X Rt)) (hk : ∀ env H, K env H → M env H) : ∀ env H, A env H → AW P T c env H (mkQ M X Rt) := by
  intro env H ha
  refine (h env H ha).mono ?_
  intro e env H q
  cases e with
  | normal => exact hk env H q
  | _ => exact q

/-- What a function's end asks. -/
def retE (T : TT) (n : Nat) (fn : Func) (Post : Value → AHeap → Prop) : EP := fun env H => pif (Nat.beq env.length n) (resK T fn.results.toList env H fun l => Post (retV l) H) False
theorem r_fn (hT : TT.ok P T) {f : FuncId} {fn : Func} {args : List Value} {H : AHeap} {Post : Value → AHeap → Prop} {n : Nat} (hf : P.funcs[f]? = some fn) (hb : fn.body = some c) (hn : (fn.name == "runtime.NumGoroutine") = false)
    (h : ∀ env H, A env H → AW P T c env H (mkQ (retE T n fn Post) (fun _ _ _ => False) (retE T n fn Post))) (ha : A (args ++ List.replicate (fn.ntmps - args.length) undef) H) : AC P T f args H Post := by
  refine AC.of_code hT hf hb hn ((h _ H ha).mono ?_)
  intro e env H q
  have fin : retE T n fn Post env H → resK T fn.results.toList env H fun l => Post (retV l) H := fun q => by
    rcases pif_true q with ⟨_, q⟩ | ⟨_, q⟩
    · exact q
    · exact q.elim
  cases e with
  | normal => exact fin q
  | ret => exact fin q
  | exit i => exact q.elim
  | goto l => exact q.elim
  | panic ch => exact q.elim
  | outgrown => exact q.elim
end

/-- A slice in new memory, of zeros. -/
def mkR (H : AHeap) (bytes : Nat) (e : TypeId) (zs : List Value) (n m : Int) (K : Value → AHeap → Prop) : Prop :=
  0 ≤ n ∧ n ≤ m ∧ m ≤ 4294967296 ∧ bytes ≤ 1024 ∧ K (.slice (some ⟨H.length, 0, none⟩) n.toNat (n.toNat + 1)) (H ++ [some (.row (List.replicate n.toNat zs).flatten e true)])

/-- A pointer to a variable's own block. -/
def asX (v : Value) (K : Nat → Prop) : Prop :=
  match v with
  | .pointer (some ⟨b, 0, none⟩) => K b
  | _ => False
theorem asX_elim {v : Value} {K : Nat → Prop} (h : asX v K) : ∃ b, v = .pointer (some ⟨b, 0, none⟩) ∧ K b := by
  unfold asX at h; split at h
  · exact ⟨_, rfl, h⟩
  · exact h.elim
theorem asX_mk {b : Nat} {K : Nat → Prop} (h : K b) : asX (.pointer (some ⟨b, 0, none⟩)) K := h
theorem asB_mk {b : Bool} {K : Bool → Prop} (h : K b) : asB (.bool b) K := h
theorem asS_mk {b : ByteArray} {K : ByteArray → Prop} (h : K b) : asS (.string b) K := h
theorem asP_mk {b o : Nat} {K : Nat → Nat → Prop} (h : K b o) : asP (.pointer (some ⟨b, o, none⟩)) K := h
/-- Two integers. -/
def as2 (v : Value) (K : Int → Int → Prop) : Prop :=
  match v with
  | .agg ⟨[.int .i64 a, .int .i64 b]⟩ => K a b
  | _ => False
theorem as2_elim {v : Value} {K : Int → Int → Prop} (h : as2 v K) : ∃ a b, v = .agg ⟨[.int .i64 a, .int .i64 b]⟩ ∧ K a b := by
  unfold as2 at h; split at h
  · exact ⟨_, _, rfl, h⟩
  · exact h.elim
theorem as2_mk {a b : Int} {K : Int → Int → Prop} (h : K a b) : as2 (.agg ⟨[.int .i64 a, .int .i64 b]⟩) K := h
end Go.Abs
