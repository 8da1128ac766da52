/- Contracts: the place of the least bit, by a table. -/
import Derived.Test.YtfcflpcmjlbedabU12b
import Derived.Test.YtfcflpcmjlbedabM10
set_option linter.unusedVariables false
set_option linter.unusedSimpArgs false
set_option maxRecDepth 100000
namespace Go.Proofs
open Go.Abs

variable {H G : AHeap} {K : Value → AHeap → Prop}

def dbj : List Int := [0, 1, 56, 2, 57, 49, 28, 3, 61, 58, 42, 50, 38, 29, 17, 4, 62, 47, 59, 36, 45, 43, 51, 22, 53, 39, 33, 30, 24, 18, 12, 5, 63, 55, 48, 27, 60, 41, 37, 16, 46, 35, 44, 21, 52, 32, 23, 11, 54, 26, 40, 15, 34, 20, 31, 10, 25, 14, 19, 9, 13, 8, 7, 6]
/-- The table is among the variables. -/
def Tab (H : AHeap) : Prop := ∃ e own, H[0]? = some (some (.row (dbj.map (Value.int .u8)) e own))
theorem Tab.le (h : Tab H) (hl : H.le G) : Tab G := by
  obtain ⟨e, o, h⟩ := h; exact ⟨e, o, hl.2 _ _ h⟩
end Go.Proofs
