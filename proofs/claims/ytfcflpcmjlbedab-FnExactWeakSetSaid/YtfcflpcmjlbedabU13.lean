/- Contracts: chains, the reference's way; lists of one's own. -/
import Derived.Test.YtfcflpcmjlbedabU12
set_option linter.unusedVariables false
set_option linter.unusedSimpArgs false
set_option maxRecDepth 100000
namespace Go.Proofs
open Go.Abs

variable {H : AHeap} {v u f : Value} {l m c : List Int} {es fs : List (Int × Int)} {K : Value → AHeap → Prop}

theorem ints_cells (h : Ints H v l) : cellsAt H v 1 l.length (LI l) := by
  refine ⟨by simp, ?_⟩
  rcases h with ⟨rfl, rfl⟩ | ⟨a, c, rfl, h⟩
  · exact ⟨none, 0, rfl, .inl rfl⟩
  · refine ⟨some a, c, rfl, ?_⟩
    rcases h with rfl | ⟨h1, h2⟩
    · exact .inl rfl
    · refine .inr ⟨a.block, a.off, ?_, fun i u hu => ?_⟩
      · cases a; cases h1; rfl
      · rw [List.getElem?_map] at hu
        cases hx : l[i]? with
        | none => rw [hx] at hu; cases hu
        | some x => rw [hx] at hu; cases hu; exact h2 i x hx
theorem own_app (h : Ints H v l) (hl : l.length ≤ 4294967296) (k : ∀ v' G, H.le G → Fresh H.length G v' 2 1 (LI l) → K v' G) :
    newK H [] 2 (fun b1 H2 => apK T0 2 H2 (.slice (some ⟨b1, 0, none⟩) 0 (0 + 1)) v K) := by
  refine newK_f rfl fun H2 l2 n2 o2 => ?_
  have f2 : Fresh H.length H2 (.slice (some ⟨H.length, 0, none⟩) 0 (0 + 1)) 2 1 [] := .inr ⟨_, 0, Nat.le_refl _, rfl, o2, rfl⟩
  refine f2.sl.app E_int (by decide) l2.1 (ints_cells (h.le l2)) (by simpa using hl) (fun h0 => ?_) fun v' G k3 _ _ f3 => ?_
  · exact k _ _ l2 (by rw [h0]; exact f2)
  · exact k _ _ (k3.le l2 (Nat.le_refl _)) f3
theorem l01Own_ok (h : Ints H v l) (hl : l.length ≤ 4294967296) (k : ∀ v' G, H.le G → Fresh H.length G v' 2 1 (LI l) → K v' G) : AC Try.prog T0 153 [v] H K := by
  apply F153.ac
  unfold F153.B2 F153.B1
  exact own_app h hl k
end Go.Proofs
