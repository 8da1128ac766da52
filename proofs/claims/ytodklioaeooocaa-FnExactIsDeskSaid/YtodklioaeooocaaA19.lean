/- Helpers of the printed proofs. -/
import Derived.Test.YtodklioaeooocaaA18
set_option linter.unusedVariables false
set_option linter.unusedSimpArgs false
namespace Go.Abs
open Go.RowKit

theorem lenE {env : Env} {n : Nat} {A : Prop} (h : pif (Nat.beq env.length n) A False) : env.length = n ∧ A := by
  rcases pif_true h with ⟨h1, h⟩ | ⟨_, h⟩
  · exact ⟨Nat.eq_of_beq_eq_true h1, h⟩
  · exact h.elim
theorem lenM {env : Env} {n : Nat} {A : Prop} (hl : env.length = n) (h : A) : pif (Nat.beq env.length n) A False :=
  pif_mk (by rw [hl]; exact Nat.beq_refl n) h
theorem asI_mk' {k : IntKind} {v : Value} {n : Int} {K : Int → Prop} (e : v = .int k n) (h : K n) : asI k v K := by subst e; exact asI_mk h
theorem asB_mk' {v : Value} {n : Bool} {K : Bool → Prop} (e : v = .bool n) (h : K n) : asB v K := by subst e; exact h
theorem asS_mk' {v : Value} {n : ByteArray} {K : ByteArray → Prop} (e : v = .string n) (h : K n) : asS v K := by subst e; exact h
theorem asX_mk' {v : Value} {n : Nat} {K : Nat → Prop} (e : v = .pointer (some ⟨n, 0, none⟩)) (h : K n) : asX v K := by subst e; exact h
theorem asP_mk' {v : Value} {b o : Nat} {K : Nat → Nat → Prop} (e : v = .pointer (some ⟨b, o, none⟩)) (h : K b o) : asP v K := by subst e; exact h
theorem as2_mk' {v : Value} {a b : Int} {K : Int → Int → Prop} (e : v = .agg ⟨[.int .i64 a, .int .i64 b]⟩) (h : K a b) : as2 v K := by subst e; exact h
theorem upd_step {u w : Nat → Value} {t : Nat} {v : Value} (hw : w = u) (h : u t = v) : upd w t v = u := by subst hw; exact upd_eq h

section
variable {P : Program} {T : TT} {K : EP}
theorem use_ops {l : List Oper} {env : Env} {H : AHeap} {n : Nat} {u : Nat → Value} (hl : env.length = n) (hu : u = fun t => env.getD t undef) (h : aOps P T l l (mkEnv u n 0) H K) : aOps P T l l env H K := by
  subst hu; rw [← env_eq hl] at h; exact h
theorem use_opsD {l : List Oper} {τ : List (Oper × Bool)} {env : Env} {H : AHeap} {n : Nat} {u : Nat → Value} (hl : env.length = n) (hu : u = fun t => env.getD t undef) (h : aOpsD P T l τ (mkEnv u n 0) H K) : aOpsD P T l τ env H K := by
  subst hu; rw [← env_eq hl] at h; exact h
end
end Go.Abs
