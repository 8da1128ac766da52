/- Contracts of the laws' helpers over lists of lists that come in. -/
import Derived.Test.YtfcflpcmjlbedabU19
import Derived.Test.YtfcflpcmjlbedabV1
set_option linter.unusedVariables false
set_option linter.unusedSimpArgs false
set_option maxRecDepth 100000
namespace Go.Proofs
open Go.Abs

variable {H G : AHeap} {v u f : Value} {l m c : List Int} {es fs : List (Int × Int)} {K : Value → AHeap → Prop} {A A' : Nat → Prop} {B B' : Nat} {ls ms : List (List Int)}

/-- A readable list of lists. -/
def RowsR (H : AHeap) (v : Value) (ls : List (List Int)) : Prop :=
  (v = .slice none 0 0 ∧ ls = []) ∨ ∃ a c, v = .slice (some a) ls.length c ∧ (ls = [] ∨ (a.spot = none ∧ ∀ i, i < ls.length → ∃ w, H.cell a.block (a.off + i) = some w ∧ Ints H w (ls.getD i [])))
theorem RowsR.le (h : RowsR H v ls) (hl : H.le G) : RowsR G v ls := by
  rcases h with h | ⟨a, c, h1, h2⟩
  · exact .inl h
  · refine .inr ⟨a, c, h1, ?_⟩
    rcases h2 with h2 | ⟨h2, h3⟩
    · exact .inl h2
    · refine .inr ⟨h2, fun i hi => ?_⟩
      obtain ⟨w, h4, h5⟩ := h3 i hi
      exact ⟨w, AHeap.cell_le hl h4, h5.le hl⟩
theorem RowsR.len (h : RowsR H v ls) {K : Nat → Prop} (k : K ls.length) : lenK v K := by
  rcases h with ⟨rfl, rfl⟩ | ⟨a, c, rfl, _⟩ <;> exact k
theorem RowsR.row (h : RowsR H v ls) {i : Nat} (hi : i < ls.length) {K : Value → Prop} (k : ∀ w, Ints H w (ls.getD i []) → K w) : idxK v i 1 (fun b o => ld1 H b o K) := by
  rcases h with ⟨rfl, rfl⟩ | ⟨⟨b, o, sp⟩, c, rfl, h2⟩
  · simp at hi
  · rcases h2 with rfl | ⟨rfl, h3⟩
    · simp at hi
    · obtain ⟨w, h4, h5⟩ := h3 i hi
      exact ⟨by omega, by omega, by rw [Int.toNat_natCast, Nat.mul_one]; exact ld1_mk h4 (k w h5)⟩
theorem RowsR.rowB (h : RowsR H v ls) (hl : H.le G) {i : Nat} (hi : i < ls.length) {K : Value → Prop} (k : ∀ w, Ints H w (ls.getD i []) → K w) : idxK v i 1 (fun b o => ld1 G b o K) := by
  rcases h with ⟨rfl, rfl⟩ | ⟨⟨b, o, sp⟩, c, rfl, h2⟩
  · simp at hi
  · rcases h2 with rfl | ⟨rfl, h3⟩
    · simp at hi
    · obtain ⟨w, h4, h5⟩ := h3 i hi
      exact ⟨by omega, by omega, by rw [Int.toNat_natCast, Nat.mul_one]; exact ld1_mk (AHeap.cell_le hl h4) (k w h5)⟩
theorem RowsR.one (h : RowsR H v ls) : v.oneCell' = true := by
  rcases h with ⟨rfl, _⟩ | ⟨a, c, rfl, _⟩ <;> rfl
end Go.Proofs
