/- Contracts: the cycles that a matching leaves, the reference's way: their lengths. -/
import Derived.Test.YtfcflpcmjlbedabU40
import Derived.Test.YtfcflpcmjlbedabU16
import Derived.Test.YtfcflpcmjlbedabM12
set_option linter.unusedVariables false
set_option linter.unusedSimpArgs false
set_option maxRecDepth 100000
namespace Go.Proofs
open Go.Abs

variable {H G : AHeap} {v u f : Value} {l m c D : List Int} {es fs : List (Int × Int)} {K : Value → AHeap → Prop} {A A' : Nat → Prop} {B : Nat} {ls ms : List (List Int)}

/-- The lengths of the cycles with a least edge less than k. -/
noncomputable def lensTo (es : List (Int × Int)) (p : Nat → Bool) : Nat → List Nat
  | 0 => []
  | k + 1 => lensTo es p k ++ if p k = true ∧ cLeadB es p k = true then [(compL es p k).length] else []
/-- Edges of cycles with a least edge less than k. -/
def ETo (es : List (Int × Int)) (p : Nat → Bool) (k j : Nat) : Prop := p j = true ∧ ∃ a, a < k ∧ p a = true ∧ Rch (eAdj es p) a j
theorem ETo.closed {p : Nat → Bool} {k a b : Nat} (h : ETo es p k a) (hab : eAdj es p a b) : ETo es p k b := by
  obtain ⟨_, c, h1, h2, h3⟩ := h
  exact ⟨hab.2.1, c, h1, h2, .step h3 hab⟩
theorem ETo.lead {p : Nat → Bool} {k : Nat} (hp : p k = true) : ETo es p k k ↔ cLeadB es p k = false := by
  rw [← Bool.not_eq_true, cLeadB_iff]
  unfold cLead ETo
  constructor
  · rintro ⟨_, a, h1, h2, h3⟩ h
    exact h a h1 h2 h3
  · intro h
    refine ⟨hp, Classical.byContradiction fun hn => h fun j h1 h2 h3 => hn ⟨j, h1, h2, h3⟩⟩
theorem ETo.succ {p : Nat → Bool} {k j : Nat} : ETo es p (k + 1) j ↔ ETo es p k j ∨ (p k = true ∧ p j = true ∧ Rch (eAdj es p) k j) := by
  unfold ETo
  constructor
  · rintro ⟨h0, a, h1, h2, h3⟩
    by_cases e : a = k
    · subst e; exact .inr ⟨h2, h0, h3⟩
    · exact .inl ⟨h0, a, by omega, h2, h3⟩
  · rintro (⟨h0, a, h1, h2, h3⟩ | ⟨h1, h2, h3⟩)
    · exact ⟨h0, a, by omega, h2, h3⟩
    · exact ⟨h2, k, by omega, h1, h3⟩
theorem ETo.skip {p : Nat → Bool} {k j : Nat} (h : ETo es p k k ∨ p k = false) : ETo es p (k + 1) j ↔ ETo es p k j := by
  rw [ETo.succ]
  refine ⟨fun h' => h'.elim id fun ⟨h1, h2, h3⟩ => ?_, .inl⟩
  rcases h with ⟨_, a, g1, g2, g3⟩ | h
  · exact ⟨h2, a, g1, g2, g3.trans h3⟩
  · rw [h] at h1; cases h1
end Go.Proofs
