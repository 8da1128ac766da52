/- A region whose order is drawn: the rule. -/
import Derived.Test.YtodklioaeooocaaA15
set_option linter.unusedVariables false
set_option linter.unusedSimpArgs false
namespace Go.Abs
open Go.RowKit
section
variable {P : Program} {T : TT} {w0 w : World} {ρ : Loc} {H : AHeap} {env : Env} {a : Act} {l : List Oper} {Q : Exit → Env → AHeap → Prop}

theorem told_of_check {τ : List (Nat × Bool)} (h : drawOK l τ = true) : Told l ∧ τ.length = l.length ∧ (∀ i, i < l.length → i ∈ τ.map (·.1)) ∧ (∀ i ∈ τ.map (·.1), i < l.length) ∧ (τ.map (·.1)).Nodup ∧ chk l (masks l []) [] τ = true := by
  simp only [drawOK, Bool.and_eq_true, List.all_eq_true, List.mem_range, decide_eq_true_eq, List.contains_iff_mem] at h
  obtain ⟨⟨⟨⟨⟨⟨h1, h2⟩, h3⟩, h4⟩, h5⟩, h7⟩, h6⟩ := h
  refine ⟨⟨?_, ?_⟩, h1, h2, ?_, nodupB_nodup h7, h6⟩
  · intro j p hp
    by_cases hj : j < l.length
    · exact h4 j hj p hp
    · have : opAt l j = default := by simp [opAt, List.getD, List.getElem?_eq_none (show l.length ≤ j by omega)]
      rw [this] at hp
      cases hp
  · intro i j t hi hj hij hd
    have := h5 i hi
    rw [hd] at this
    simp only [List.all_eq_true, List.mem_range, Bool.or_eq_true, Bool.and_eq_true, beq_iff_eq, bne_iff_ne, Bool.not_eq_true'] at this
    rcases this j hj with h | ⟨h, k⟩
    · exact absurd h hij
    · refine ⟨h, fun ht => ?_⟩
      rcases k with (k | k) | k
      · have : (looks l (opAt l j)).contains t = true := by simpa using ht
        rw [this] at k; cases k
      · exact .inl k
      · exact .inr k
  · intro i hi
    obtain ⟨x, hx, rfl⟩ := List.mem_map.1 hi
    exact h3 x hx

theorem AW.region_draw (hT : TT.ok P T) (hm : P.follows .mixedOrders = true) {id : Nat} (τ : List (Nat × Bool)) (hc : drawOK l τ = true) (h : aOpsD P T l (opsOf l τ) env H fun env H => Q .normal env H) :
    AW P T (.region id ⟨l⟩ true) env H Q := by
  intro w0 w ρ a R E
  obtain ⟨tl, h1, h2, h3, hnd, h4⟩ := told_of_check hc
  refine wp_region_any hm ?_
  have S : SInv P T l w0 (Array.replicate (⟨l⟩ : Array Oper).size false) [] (τ.map (·.1)) [] env H ρ a { w with drawn := w.drawn + 1 } := by
    refine ⟨fun i hi => .inr (h2 i hi), by simp, fun i hi => h3 i (by simpa using hi), hnd, by simp, by simp, ?_, ?_, by simp, by simpa using E.vals.length, E.defers, fun t _ => E.fit t, R.drew _, by simp, by simp, by simp, by simp, by simp, by simp⟩
    · intro i hi
      simp [hi]
    · intro j hj
      by_cases hjl : j < l.length
      · simp [hjl] at hj
      · simp [hjl] at hj
  obtain ⟨d', t', p', e', g1, g2, g3, g4, g5⟩ := eager tl τ [] [] env S h4 h
  have hf : (⟨l⟩ : Array Oper).size = t'.length + p'.length := by simp at g5 ⊢; omega
  rw [hf]
  rw [show Array.replicate (t'.length + p'.length) false = Array.replicate (⟨l⟩ : Array Oper).size false by rw [hf]]
  refine sim (ρ0 := ρ) hT tl ?_ _ _ d' t' p' e' H ρ a _ g1 (Loc.le_refl _) g2 g3 g4 rfl
  intro env' H' ρ' a' w' k1 k2 k3 k4
  exact ⟨env', H', ρ', k1, k2, k3, k4⟩
end
end Go.Abs
