/- Contracts: all matchings, the reference's way. -/
import Derived.Test.YtfcflpcmjlbedabU12b
import Derived.Test.YtfcflpcmjlbedabU8
import Derived.Test.YtfcflpcmjlbedabU13
import Derived.Test.YtfcflpcmjlbedabK3
import Derived.Test.YtfcflpcmjlbedabU38
set_option linter.unusedVariables false
set_option linter.unusedSimpArgs false
set_option maxRecDepth 100000
namespace Go.Proofs
open Go.Abs

variable {H G : AHeap} {v u f : Value} {l m c D : List Int} {es fs : List (Int × Int)} {K : Value → AHeap → Prop} {A A' : Nat → Prop} {B : Nat} {ls ms : List (List Int)}

theorem l01Other_ok {n e x : Int} (h : Edges H v es) (h0 : 0 ≤ e) (h1 : e < es.length) (b1 : 0 ≤ (es.getD e.toNat (0, 0)).1 ∧ (es.getD e.toNat (0, 0)).1 ≤ 1000000) (b2 : 0 ≤ (es.getD e.toNat (0, 0)).2 ∧ (es.getD e.toNat (0, 0)).2 ≤ 1000000) (b3 : 0 ≤ x ∧ x ≤ 1000000)
    (k : ∀ G, H.le G → K (.int .i64 ((es.getD e.toNat (0, 0)).1 + (es.getD e.toNat (0, 0)).2 - x)) G) : AC Try.prog T0 121 [.agg ⟨[.int .i64 n, v]⟩, .int .i64 e, .int .i64 x] H K := by
  apply F121.ac
  unfold F121.B2
  refine newK_f (all_iv (edges_one' h)) fun H1 l1 _ o1 => ?_
  unfold F121.B1
  obtain ⟨bb, oo, hk, c1, c2⟩ := (h.le l1).idx h0 h1
  refine ld1_own o1 rfl (hk _ (ldI_mk c1 (ld1_own o1 rfl (hk _ (ldI_mk c2 ?_)))))
  rw [wrap_id (x := _ + _) (by omega) (by omega), wrap_id (by omega) (by omega)]
  exact k _ l1
end Go.Proofs
