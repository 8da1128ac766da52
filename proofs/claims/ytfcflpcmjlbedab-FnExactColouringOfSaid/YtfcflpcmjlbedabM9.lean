/- Plain mathematics: sets of so many numbers, in order. -/
import Derived.Test.YtfcflpcmjlbedabM8
set_option linter.unusedVariables false
set_option linter.unusedSimpArgs false
namespace Go.Proofs
open Go.Abs

theorem IsS.bits {l : List Int} {n : Nat} (h : IsS l n) (hn : n ≤ 64) : bitsL (setN l) = l := by
  rw [bitsL_filt hn fun j hj => bitB_lt h hj]
  exact h.filt.symm
end Go.Proofs
