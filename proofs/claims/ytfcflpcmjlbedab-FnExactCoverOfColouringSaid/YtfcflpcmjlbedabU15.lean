/- Contracts: even sets, both sides. -/
import Derived.Test.YtfcflpcmjlbedabU12
set_option linter.unusedVariables false
set_option linter.unusedSimpArgs false
set_option maxRecDepth 100000
namespace Go.Proofs
open Go.Abs

variable {H : AHeap} {v u f : Value} {l m c : List Int} {es fs : List (Int × Int)} {K : Value → AHeap → Prop}

theorem kept_get {es : List (Int × Int)} {l : List Int} {i : Nat} (h : i < l.length) : keptL es (l.take (i + 1)) = keptL es (l.take i) ++ [es.getD (l[i]).toNat (0, 0)] := by
  unfold keptL; rw [List.take_succ_eq_append_getElem h, List.map_append]; rfl
theorem IsS.short {l : List Int} {n : Nat} (h : IsS l n) : l.length ≤ n := by rw [h.filt]; exact filtB_length _ _

end Go.Proofs
