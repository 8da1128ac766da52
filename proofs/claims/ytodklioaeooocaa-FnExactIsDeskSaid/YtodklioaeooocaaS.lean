import Derived.Test.YtodklioaeooocaaT
set_option linter.unusedVariables false
set_option maxRecDepth 100000
namespace Go.Proofs
open Go.Abs
def as_ii (v : Value) (K : Int → Int → Prop) : Prop :=
  match v with
  | .agg ⟨[.int .i64 a, .int .i64 b]⟩ => K a b
  | _ => False
theorem as_ii_elim {v : Value} {K : Int → Int → Prop} (h : as_ii v K) : ∃ a b, v = .agg ⟨[.int .i64 a, .int .i64 b]⟩ ∧ K a b := by
  unfold as_ii at h; split at h
  · exact ⟨_, _, rfl, h⟩
  · exact h.elim
theorem as_ii_mk' {v : Value} {a : Int} {b : Int} {K : Int → Int → Prop} (e : v = .agg ⟨[.int .i64 a, .int .i64 b]⟩) (h : K a b) : as_ii v K := by subst e; exact h
def as_iv (v : Value) (K : Int → Value → Prop) : Prop :=
  match v with
  | .agg ⟨[.int .i64 a, b]⟩ => K a b
  | _ => False
theorem as_iv_elim {v : Value} {K : Int → Value → Prop} (h : as_iv v K) : ∃ a b, v = .agg ⟨[.int .i64 a, b]⟩ ∧ K a b := by
  unfold as_iv at h; split at h
  · exact ⟨_, _, rfl, h⟩
  · exact h.elim
theorem as_iv_mk' {v : Value} {a : Int} {b : Value} {K : Int → Value → Prop} (e : v = .agg ⟨[.int .i64 a, b]⟩) (h : K a b) : as_iv v K := by subst e; exact h
def as_ivvv (v : Value) (K : Int → Value → Value → Value → Prop) : Prop :=
  match v with
  | .agg ⟨[.int .i64 a, b, c, d]⟩ => K a b c d
  | _ => False
theorem as_ivvv_elim {v : Value} {K : Int → Value → Value → Value → Prop} (h : as_ivvv v K) : ∃ a b c d, v = .agg ⟨[.int .i64 a, b, c, d]⟩ ∧ K a b c d := by
  unfold as_ivvv at h; split at h
  · exact ⟨_, _, _, _, rfl, h⟩
  · exact h.elim
theorem as_ivvv_mk' {v : Value} {a : Int} {b : Value} {c : Value} {d : Value} {K : Int → Value → Value → Value → Prop} (e : v = .agg ⟨[.int .i64 a, b, c, d]⟩) (h : K a b c d) : as_ivvv v K := by subst e; exact h
end Go.Proofs
