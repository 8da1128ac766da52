/- Lists of lists, continued. -/
import Derived.Test.YtfcflpcmjlbedaaDoorK2
set_option linter.unusedVariables false
set_option linter.unusedSimpArgs false
set_option maxRecDepth 100000
namespace Go.Proofs
open Go.Abs

variable {H G : AHeap} {v u f : Value} {l m c D : List Int} {es fs : List (Int × Int)} {K : Value → AHeap → Prop} {A A' : Nat → Prop} {B : Nat} {ls ms : List (List Int)}

theorem fresh_cells {m0 : Nat} {t : TypeId} {z n : Nat} {cs : List Value} (h : Fresh m0 H v t z cs) (hz : 0 < z) (hn : cs.length = n * z) : cellsAt H v z n cs := by
  rcases h with ⟨rfl, h⟩ | ⟨b, k, _, rfl, ho, hk⟩
  · have : n = 0 := by
      cases n with
      | zero => rfl
      | succ n => simp [Nat.add_mul] at hn; omega
    subst this
    rcases h with rfl | ⟨a, rfl⟩
    · exact ⟨hn, _, _, rfl, .inl rfl⟩
    · exact ⟨hn, _, _, rfl, .inl rfl⟩
  · obtain rfl : k = n := Nat.eq_of_mul_eq_mul_right hz (hk.symm.trans hn)
    exact cellsAt_row ho hn
end Go.Proofs
