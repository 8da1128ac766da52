/- Contracts: copies into a row of one's own. -/
import Derived.Test.YtfcflpcmjlbedabU25
import Derived.Test.YtfcflpcmjlbedabU4
set_option linter.unusedVariables false
set_option linter.unusedSimpArgs false
set_option maxRecDepth 100000
namespace Go.Proofs
open Go.Abs

variable {H : AHeap} {l s : List Int}

theorem cp_own {b o n c2 sb so m c : Nat} {K : Nat → AHeap → Prop} (hb : Own H b 2 (LI l)) (hs : Own H sb 2 (LI s)) (hm : 0 < m) (hn : 0 < n) (h1 : so + m ≤ s.length) (h2 : o + n ≤ l.length)
    (k : ∀ G, But b H G → Own G b 2 (LI (l.take o ++ (s.drop so).take (Nat.min m n) ++ l.drop (o + Nat.min m n))) → K (Nat.min m n) G) :
    cpK T0 2 H (.slice (some ⟨b, o, none⟩) n c2) (.slice (some ⟨sb, so, none⟩) m c) K := by
  have hq : Nat.min m n ≤ m ∧ Nat.min m n ≤ n ∧ 0 < Nat.min m n := ⟨Nat.min_le_left _ _, Nat.min_le_right _ _, Nat.lt_min.2 ⟨hm, hn⟩⟩
  have hl : (LI ((s.drop so).take (Nat.min m n))).length = Nat.min m n := by simp only [LI, List.length_map, List.length_take, List.length_drop]; omega
  refine .inr ⟨sb, so, m, c, b, o, n, c2, LI l, LI ((s.drop so).take (Nat.min m n)), rfl, rfl, hb, hq.2.2, ?_, ?_, ?_, k _ But.set ?_⟩
  · rw [hl]; exact (Nat.mul_one _).symm
  · intro i u hu
    rw [hs.cell]
    have hi := lt_of_get hu
    rw [hl] at hi
    simp only [LI, List.getElem?_map] at hu ⊢
    rw [List.getElem?_take_of_lt hi, List.getElem?_drop] at hu
    exact hu
  · rw [hl]; simp only [LI, List.length_map]; omega
  · rw [hl]
    have : b < H.length := lt_of_get hb
    simp only [Own, LI, List.map_append, List.map_take, List.map_drop]
    rw [List.getElem?_set_self this]
end Go.Proofs
