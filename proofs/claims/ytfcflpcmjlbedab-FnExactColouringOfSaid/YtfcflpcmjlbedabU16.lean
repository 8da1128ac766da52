/- Contracts: leaders of vertices. -/
import Derived.Test.YtfcflpcmjlbedabU15
set_option linter.unusedVariables false
set_option linter.unusedSimpArgs false
set_option maxRecDepth 100000
namespace Go.Proofs
open Go.Abs

variable {H : AHeap} {v u f : Value} {l m c : List Int} {es fs : List (Int × Int)} {K : Value → AHeap → Prop}

/-- Each vertex's number leads to it and is no greater. -/
def Led (n : Nat) (fs : List (Int × Int)) (D : List Int) : Prop := D.length = n ∧ ∀ w, w < n → ∃ k : Nat, D.getD w 0 = k ∧ k ≤ w ∧ Rch (vAdj fs) w k
/-- And joined vertices have the same. -/
structure Leads (n : Nat) (fs : List (Int × Int)) (D : List Int) : Prop where
  led : Led n fs D
  same : ∀ e ∈ fs, D.getD e.1.toNat 0 = D.getD e.2.toNat 0
theorem Leads.rch {n : Nat} {fs : List (Int × Int)} {D : List Int} (h : Leads n fs D) {a b : Nat} (hr : Rch (vAdj fs) a b) : D.getD a 0 = D.getD b 0 := by
  refine hr.keep (P := fun x => D.getD a 0 = D.getD x 0) (fun x y hxy hx => ?_) rfl
  rw [hx]
  rcases hxy with h1 | h1
  · simpa using h.same _ h1
  · simpa using (h.same _ h1).symm
theorem upto_length (k : Nat) : (upto k).length = k := by simp [upto]
end Go.Proofs
