/- Every operation that reads or reckons: the model gives what the abstract one gives. -/
import Derived.Test.YtodklioaeooocaaA3
import Derived.Laws.Entries
import Derived.Laws.StructEq
import Derived.Laws.Cover3
import Derived.Laws.Small
set_option linter.unusedVariables false
set_option linter.unusedSimpArgs false
namespace Go.Abs
open Go.RowKit
section
variable {P : Program} {T : TT} {G : Nat} {w0 w : World} {ρ : Loc} {H : AHeap} {env : Env} {a : Act}

/-- What soundness says of one value. -/
def Gives (P : Program) (ρ : Loc) (w : World) (s : Sem Value) (K : Value → Prop) : Prop :=
  ∃ v v', K v ∧ VR ρ v v' ∧ s.run P w = .ok v' w

theorem bitsOf_sound {op : BinOp} {k : IntKind} {x y : Int} {K : Value → Prop} (h : bitsOf op k x y K) : Gives P ρ w (Op.intBits op k x y) K := by
  cases op <;> simp only [bitsOf] at h <;> first | exact h.elim | exact ⟨_, _, h, .scalar _ rfl, rfl⟩

theorem shiftK_sound {op : BinOp} {k k' : IntKind} {x y : Int} {K : Value → Prop} (h : shiftK op k x y K) : Gives P ρ w (Op.shift op k x k' y) K := by
  cases op <;> simp only [shiftK] at h <;> first | exact h.elim | skip
  · exact ⟨_, _, h.2, .scalar _ rfl, by simp [Op.shift, Int.not_lt.2 h.1]⟩
  · exact ⟨_, _, h.2, .scalar _ rfl, by simp [Op.shift, Int.not_lt.2 h.1]⟩

theorem nzK_elim {y : Int} {K : Prop} (h : nzK y K) : y ≠ 0 ∧ K := by
  rcases pif_true h with ⟨h1, h2⟩ | ⟨_, h⟩
  · exact ⟨by simpa using h1, h2⟩
  · exact h.elim

theorem binOp_int (op : BinOp) (t : TypeId) (k : IntKind) (x y : Int) (h1 : op ≠ .shl) (h2 : op ≠ .shr) : binOp op t (.int k x) (.int k y) =
    (match op with
    | .add | .sub | .mul => Op.intArith op k x y
    | .quo | .rem => Op.intDiv op k x y
    | .and | .or | .xor | .andNot => Op.intBits op k x y
    | _ => Op.intCmp op x y) := by
  cases op <;> first | exact absurd rfl h1 | exact absurd rfl h2 | simp [binOp]

theorem intK_sound {op : BinOp} {t : TypeId} {k : IntKind} {x y : Int} {K : Value → Prop} (h1 : op ≠ .shl) (h2 : op ≠ .shr) (h : intK op k x y K) : Gives P ρ w (binOp op t (.int k x) (.int k y)) K := by
  rw [binOp_int op t k x y h1 h2]
  cases op <;> simp only [intK] at h
  case quo => obtain ⟨h0, h⟩ := nzK_elim h; exact ⟨_, _, h, .scalar _ rfl, by simp [Op.intDiv, h0]⟩
  case rem => obtain ⟨h0, h⟩ := nzK_elim h; exact ⟨_, _, h, .scalar _ rfl, by simp [Op.intDiv, h0]⟩
  case and => exact bitsOf_sound h
  case or => exact bitsOf_sound h
  case xor => exact bitsOf_sound h
  case andNot => exact bitsOf_sound h
  all_goals first | exact ⟨_, _, h, .scalar _ rfl, rfl⟩ | exact h.elim

theorem strK_sound {op : BinOp} {t : TypeId} {x y : ByteArray} {K : Value → Prop} (h : strK op x y K) : Gives P ρ w (binOp op t (.string x) (.string y)) K := by
  cases op <;> simp only [strK] at h <;> first | exact h.elim | skip
  · refine ⟨_, _, h.2, .scalar _ rfl, ?_⟩
    have := h.1
    simp only [binOp, Op.stringOp]
    rw [if_neg (by simp [IntKind.max, IntKind.bits, IntKind.signed]; omega)]
    rfl
  all_goals exact ⟨_, _, h, .scalar _ rfl, rfl⟩

theorem run_eql_bool (hT : TT.ok P T) {t : TypeId} {i : TI} (hi : T t = some i) (hd : i.desc = .bool) (x y : Bool) (u v : Operand) :
    (do eqGuard .eql t u v (.bool x) (.bool y); binOp .eql t (.bool x) (.bool y)).run P w = .ok (.bool (x == y)) w := by
  have := run_equal_bool (P := P) w t x y (by rw [← hd]; exact (hT t i hi).1)
  simp [eqGuard_at_bool, binOp, this]
theorem run_neq_bool (hT : TT.ok P T) {t : TypeId} {i : TI} (hi : T t = some i) (hd : i.desc = .bool) (x y : Bool) (u v : Operand) :
    (do eqGuard .neq t u v (.bool x) (.bool y); binOp .neq t (.bool x) (.bool y)).run P w = .ok (.bool (!(x == y))) w := by
  have := run_equal_bool (P := P) w t x y (by rw [← hd]; exact (hT t i hi).1)
  simp [eqGuard_at_bool, binOp, this]
theorem run_eql_slice (hT : TT.ok P T) {t : TypeId} {i : TI} {e : TypeId} (hi : T t = some i) (hd : i.desc = .slice e) (x : Option Addr) (n c : Nat) (u v : Operand) :
    (do eqGuard .eql t u v (.slice x n c) (.slice none 0 0); binOp .eql t (.slice x n c) (.slice none 0 0)).run P w = .ok (.bool x.isNone) w := by
  have h := run_equal_slice_nil (P := P) w t e x n c (by rw [← hd]; exact (hT t i hi).1)
  simp only [eqGuard_at_slice, pure_bind, binOp, Sem.run_bind, h, Result.andThen_ok]; rfl
theorem run_neq_slice (hT : TT.ok P T) {t : TypeId} {i : TI} {e : TypeId} (hi : T t = some i) (hd : i.desc = .slice e) (x : Option Addr) (n c : Nat) (u v : Operand) :
    (do eqGuard .neq t u v (.slice x n c) (.slice none 0 0); binOp .neq t (.slice x n c) (.slice none 0 0)).run P w = .ok (.bool (!x.isNone)) w := by
  have h := run_equal_slice_nil (P := P) w t e x n c (by rw [← hd]; exact (hT t i hi).1)
  simp only [eqGuard_at_slice, pure_bind, binOp, Sem.run_bind, h, Result.andThen_ok]; rfl

theorem run_eqGuard_array (hT : TT.ok P T) {op : BinOp} (hop : op = .eql ∨ op = .neq) {t e : TypeId} {i ti : TI} (hi : T t = some i) (hd : i.desc = .array 2 e) (he : T e = some ti) (hde : ti.desc = .int .i64) (hsz : ti.size = 1)
    (x y z u : Int) (p q : Operand) : (eqGuard op t p q (.agg #[.int .i64 x, .int .i64 y]) (.agg #[.int .i64 z, .int .i64 u])).run P w = .ok () w := by
  have h : (underlying t).run P w = .ok (.array 2 e) w := by rw [run_underlying hT hi, hd]
  have h2 : (underlying e).run P w = .ok (.int .i64) w := by rw [run_underlying hT he, hde]
  have h3 : (sizeOf e).run P w = .ok 1 w := by rw [run_sizeOf hT he, hsz]
  have h4 : (isAgg e).run P w = .ok false w := by rw [run_isAgg hT he]; simp [TI.isAgg, hde]
  have key : ∀ d, (Op.eqGuardIn (d + 1 + 1) t (.agg #[.int .i64 x, .int .i64 y]) (.agg #[.int .i64 z, .int .i64 u])).run P w = .ok false w := by
    intro d
    simp [Op.eqGuardIn, h, h2, h3, part, h4, Std.Legacy.Range.forIn_eq_forIn_range', Std.Legacy.Range.size, List.range']
  have key2 := key 9998
  rcases hop with rfl | rfl <;>
  · simp only [eqGuard, bne_self_eq_false, Bool.false_eq_true, if_false, Bool.not_true]
    simp only [Sem.run_bind, run_program, Result.andThen_ok, pure_bind, Bool.not_false, Bool.not_eq_true']
    split
    · rfl
    · rw [show Op.maxDepth = 9998 + 1 + 1 from rfl]
      simp only [Sem.run_bind, key2, Result.andThen_ok]
      rfl

theorem run_equal_array (hT : TT.ok P T) {t e : TypeId} {i ti : TI} (hi : T t = some i) (hd : i.desc = .array 2 e) (he : T e = some ti) (hde : ti.desc = .int .i64) (hsz : ti.size = 1)
    (x y z u : Int) : (Op.equal t (.agg #[.int .i64 x, .int .i64 y]) (.agg #[.int .i64 z, .int .i64 u])).run P w = .ok ((x == z) && (y == u)) w := by
  have h : (underlying t).run P w = .ok (.array 2 e) w := by rw [run_underlying hT hi, hd]
  have h2 : (underlying e).run P w = .ok (.int .i64) w := by rw [run_underlying hT he, hde]
  have h3 : (sizeOf e).run P w = .ok 1 w := by rw [run_sizeOf hT he, hsz]
  have h4 : (isAgg e).run P w = .ok false w := by rw [run_isAgg hT he]; simp [TI.isAgg, hde]
  have key : ∀ d, (Op.equalIn (d + 1 + 1) t (.agg #[.int .i64 x, .int .i64 y]) (.agg #[.int .i64 z, .int .i64 u])).run P w = .ok ((x == z) && (y == u)) w := by
    intro d
    have e1 : ∀ x z : Int, _ := fun x z => run_equalIn_int (P := P) w d e .i64 .i64 x z (by rw [← hde]; exact (hT e ti he).1)
    unfold Op.equalIn
    by_cases h5 : x = z <;> by_cases h6 : y = u <;>
      simp [h, h3, part, h4, Std.Legacy.Range.forIn_eq_forIn_range', Std.Legacy.Range.size, List.range', h5, h6, e1]
  exact key 9998

theorem eq2K_elim {v u : List Value} {K : Bool → Prop} (h : eq2K v u K) : ∃ x y z t : Int, v = [.int .i64 x, .int .i64 y] ∧ u = [.int .i64 z, .int .i64 t] ∧ K ((x == z) && (y == t)) := by
  unfold eq2K at h; split at h
  · exact ⟨_, _, _, _, rfl, rfl, h⟩
  · exact h.elim

theorem VRs.two {x y : Int} {l : List Value} (h : VRs ρ [.int .i64 x, .int .i64 y] l) : l = [.int .i64 x, .int .i64 y] := by
  cases h with
  | cons _ _ _ _ h t => cases t with
    | cons _ _ _ _ h2 t => cases t with
      | nil => rw [h.int_inv, h2.int_inv]

theorem eqOp_elim {op : BinOp} {b : Bool} {K : Value → Prop} (h : eqOp op b K) : (op = .eql ∧ K (.bool b)) ∨ (op = .neq ∧ K (.bool (!b))) := by
  cases op <;> first | exact .inl ⟨rfl, h⟩ | exact .inr ⟨rfl, h⟩ | exact h.elim

theorem binK_sound (hT : TT.ok P T) {op : BinOp} {t : TypeId} {v u v' u' : Value} (p q : Operand) {K : Value → Prop} (hv : VR ρ v v') (hu : VR ρ u u') (h : binK T op t v u K) :
    Gives P ρ w (do eqGuard op t p q v' u'; binOp op t v' u') K := by
  unfold binK at h
  split at h
  · rename_i k x k' y
    rw [hv.int_inv, hu.int_inv]
    by_cases h1 : op = .shl
    · subst h1
      obtain ⟨v, v', h1, h2, h3⟩ := shiftK_sound (P := P) (ρ := ρ) (w := w) (k' := k') (show shiftK .shl k x y K from h); exact ⟨v, v', h1, h2, by simpa [eqGuard, binOp] using h3⟩
    by_cases h2 : op = .shr
    · subst h2
      obtain ⟨v, v', h1, h2, h3⟩ := shiftK_sound (P := P) (ρ := ρ) (w := w) (k' := k') (show shiftK .shr k x y K from h); exact ⟨v, v', h1, h2, by simpa [eqGuard, binOp] using h3⟩
    have h' : pif (decide (k = k')) (intK op k x y K) False := by
      revert h
      cases op <;> first | exact absurd rfl h1 | exact absurd rfl h2 | exact id
    rcases pif_true h' with ⟨hk, h3⟩ | ⟨_, h3⟩
    · obtain rfl := of_decide_eq_true hk
      obtain ⟨v, v', g1, g2, g3⟩ := intK_sound (P := P) (ρ := ρ) (w := w) (t := t) h1 h2 h3
      exact ⟨v, v', g1, g2, by simpa [eqGuard_at_int] using g3⟩
    · exact h3.elim
  · rw [hv.str_inv, hu.str_inv]
    obtain ⟨v, v', h1, h2, h3⟩ := strK_sound (P := P) (ρ := ρ) (w := w) (t := t) h
    exact ⟨v, v', h1, h2, by simpa [eqGuard_at_string] using h3⟩
  · rw [hv.bool_inv, hu.bool_inv]
    split at h
    · rename_i hi
      rcases eqOp_elim h with ⟨rfl, h⟩ | ⟨rfl, h⟩
      · exact ⟨_, _, h, .scalar _ rfl, run_eql_bool hT hi rfl _ _ p q⟩
      · exact ⟨_, _, h, .scalar _ rfl, run_neq_bool hT hi rfl _ _ p q⟩
    · exact h.elim
  · split at h
    · rename_i hi
      split at h
      · rename_i he
        obtain ⟨x, y, z, s, rfl, rfl, h⟩ := eq2K_elim h
        obtain ⟨l1, rfl, g1⟩ := hv.agg_inv
        obtain ⟨l2, rfl, g2⟩ := hu.agg_inv
        rw [g1.two, g2.two]
        rcases eqOp_elim h with ⟨rfl, h⟩ | ⟨rfl, h⟩
        · refine ⟨_, _, h, .scalar _ rfl, ?_⟩
          rw [Sem.run_bind, run_eqGuard_array hT (.inl rfl) hi rfl he rfl rfl]
          simp only [Result.andThen_ok, binOp, Sem.run_bind, run_equal_array hT hi rfl he rfl rfl]
          rfl
        · refine ⟨_, _, h, .scalar _ rfl, ?_⟩
          rw [Sem.run_bind, run_eqGuard_array hT (.inr rfl) hi rfl he rfl rfl]
          simp only [Result.andThen_ok, binOp, Sem.run_bind, run_equal_array hT hi rfl he rfl rfl]
          rfl
      · exact h.elim
    · exact h.elim
  · exact h.elim

theorem isNilK_elim {v : Value} {K : Bool → Prop} (h : isNilK v K) : ∃ a n c, v = .slice a n c ∧ K a.isNone := by
  unfold isNilK at h; split at h
  · exact ⟨_, _, _, rfl, h⟩
  · exact h.elim
theorem isNilSlice_eq {u : Value} (h : isNilSlice u = true) : u = .slice none 0 0 := by
  unfold isNilSlice at h; split at h
  · rfl
  · cases h
theorem nilCmp_sound (hT : TT.ok P T) {op : BinOp} {t : TypeId} {v v' : Value} (p q : Operand) {K : Value → Prop} (hv : VR ρ v v') (h : nilCmp T op t v K) :
    Gives P ρ w (do eqGuard op t p q v' (.slice none 0 0); binOp op t v' (.slice none 0 0)) K := by
  unfold nilCmp at h
  split at h
  · rename_i hi
    obtain ⟨a, n, c, rfl, h⟩ := isNilK_elim h
    rcases eqOp_elim h with ⟨rfl, h⟩ | ⟨rfl, h⟩
    · cases hv with
      | scalar _ hs => exact ⟨_, _, h, .scalar _ rfl, run_eql_slice hT hi rfl _ _ _ p q⟩
      | slice a c' len cap cap' hs => exact ⟨_, _, h, .scalar _ rfl, by rw [run_eql_slice hT hi rfl]; rfl⟩
    · cases hv with
      | scalar _ hs => exact ⟨_, _, h, .scalar _ rfl, run_neq_slice hT hi rfl _ _ _ p q⟩
      | slice a c' len cap cap' hs => exact ⟨_, _, h, .scalar _ rfl, by rw [run_neq_slice hT hi rfl]; rfl⟩
  · exact h.elim

theorem unK_sound {op : UnOp} {v v' : Value} {K : Value → Prop} (hv : VR ρ v v') (h : unK op v K) : Gives P ρ w (Op.unary op v') K := by
  unfold unK at h
  split at h
  · rw [hv.bool_inv]; exact ⟨_, _, h, .scalar _ rfl, rfl⟩
  · rw [hv.int_inv]; exact ⟨_, _, h, .scalar _ rfl, rfl⟩
  · rw [hv.int_inv]; exact bitsOf_sound h
  · exact h.elim
end
end Go.Abs
