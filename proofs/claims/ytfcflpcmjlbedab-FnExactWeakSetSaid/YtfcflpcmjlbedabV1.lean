/- What comes in, by this program's types. -/
import Derived.Test.YtfcflpcmjlbedabU2
set_option linter.unusedVariables false
set_option linter.unusedSimpArgs false
set_option maxRecDepth 100000
namespace Go.Proofs
open Go.Abs

variable {H : AHeap} {v : Value}

theorem av_graph (h : AV T0 H 24 v) : ∃ n ve es, v = .agg ⟨[.int .i64 n, ve]⟩ ∧ Edges H ve es ∧ es.length ≤ 9223372036854775807 := by
  obtain ⟨n, cs, a, rfl⟩ := AV_agg h (by kernel_rfl)
  obtain ⟨m, c⟩ := AT_struct (by kernel_rfl) a
  rw [show sFields (T0 24) = [2, 22] by kernel_rfl] at c
  obtain ⟨h1, h2, h3, h4, h5⟩ := c
  rw [show sz T0 2 = 1 by kernel_rfl] at h1 h2 h3 h4 h5
  rw [show sz T0 22 = 1 by kernel_rfl] at h3 h4 h5
  obtain ⟨x, hx, _⟩ := AT_i64 (by kernel_rfl) h2
  obtain ⟨ve, es, hv, he, hl⟩ := AT_edges (e := 99) (i := 2) (by kernel_rfl) (by kernel_rfl) (by kernel_rfl) (by kernel_rfl) (by kernel_rfl) h4
  refine ⟨x, ve, es, ?_, he, hl⟩
  match cs, h1, h3, hx, hv, h5 with
  | [a, b], _, _, hx, hv, _ => simp at hx hv; rw [hx, hv]
  | a :: b :: c :: r, _, _, _, _, h5 => simp [Chunked] at h5

end Go.Proofs
