/- Contracts: even sets, both sides. -/
import Derived.Test.YtfcflpcmjlbedaaU12
set_option linter.unusedVariables false
set_option linter.unusedSimpArgs false
set_option maxRecDepth 100000
namespace Go.Proofs
open Go.Abs

variable {H : AHeap} {v u f : Value} {l m c : List Int} {es fs : List (Int × Int)} {K : Value → AHeap → Prop}

theorem edgesCode_ok {n : Int} (h : Edges H v es) (hl : es.length ≤ 1048576) (hc : Ints H u l) (hcl : l.length ≤ 1048576) (k : ∀ G, H.le G → K (.int .i64 (if IsG n es then (if IsS l es.length then 0 else 2) else 1)) G) :
    AC Try.prog T0 58 [.agg ⟨[.int .i64 n, v]⟩, u] H K := by
  apply F58.ac
  unfold F58.B2
  refine newK_f (all_iv (edges_one' h)) fun H1 l1 n1 o1 => ?_
  unfold F58.B1
  refine ldI_own o1 rfl (ld1_own o1 rfl (ld1_own o1 rfl (lengthE_ok (h.le l1) (asI_mk ⟨AHeap.le_refl _, isSet_ok (hc.le l1) (by omega) (by omega) (by omega) (asB_mk ⟨AHeap.le_refl _, graphCode_ok (h.le l1) hl fun G hG => asI_mk ?_⟩)⟩))))
  have k := k _ (AHeap.le_trans l1 hG)
  by_cases hs : IsS l es.length
  · rw [if_pos hs] at k; rw [decide_eq_true hs]; exact k
  · rw [if_neg hs] at k; rw [decide_eq_false hs]; exact k
end Go.Proofs
