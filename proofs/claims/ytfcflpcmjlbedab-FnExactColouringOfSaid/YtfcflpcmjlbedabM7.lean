/- Plain mathematics: the cycles of a set of edges: its connected parts. -/
import Derived.Test.YtfcflpcmjlbedabM6
set_option linter.unusedVariables false
set_option linter.unusedSimpArgs false
namespace Go.Proofs
open Go.Abs

/-- Edges of a kind that have a vertex in common. -/
def eAdj (es : List (Int × Int)) (p : Nat → Bool) (i j : Nat) : Prop := j < es.length ∧ p j = true ∧ share (es.getD i (0, 0)) (es.getD j (0, 0))
noncomputable def rchB (adj : Nat → Nat → Prop) (e : Nat) (j : Nat) : Bool := decide (Rch adj e j)
theorem rchB_iff {adj : Nat → Nat → Prop} {e j : Nat} : rchB adj e j = true ↔ Rch adj e j := by unfold rchB; simp
theorem share_symm {a b : Int × Int} (h : share a b) : share b a := by
  obtain ⟨v, h1, h2⟩ := h; exact ⟨v, h2, h1⟩
section
variable {es : List (Int × Int)} {p : Nat → Bool} {l : List Int}
theorem eRch_in {i j : Nat} (h : Rch (eAdj es p) i j) (hi : i < es.length ∧ p i = true) : j < es.length ∧ p j = true :=
  h.keep (P := fun x => x < es.length ∧ p x = true) (fun x y hxy _ => ⟨hxy.1, hxy.2.1⟩) hi
theorem eRch_symm {i j : Nat} (h : Rch (eAdj es p) i j) (hi : i < es.length ∧ p i = true) : Rch (eAdj es p) j i := by
  have : ∀ x, Rch (eAdj es p) i x → Rch (eAdj es p) x i ∧ (x < es.length ∧ p x = true) := by
    intro x hx
    induction hx with
    | refl => exact ⟨.refl, hi⟩
    | step _ h2 ih => exact ⟨(Rch.step .refl ⟨ih.2.1, ih.2.2, share_symm h2.2.2⟩).trans ih.1, h2.1, h2.2.1⟩
  exact (this j h).1
def cLead (es : List (Int × Int)) (p : Nat → Bool) (i : Nat) : Prop := ∀ j, j < i → p j = true → ¬ Rch (eAdj es p) j i
noncomputable def cLeadB (es : List (Int × Int)) (p : Nat → Bool) (i : Nat) : Bool := @decide (cLead es p i) (Classical.propDecidable _)
theorem cLeadB_iff {i : Nat} : cLeadB es p i = true ↔ cLead es p i := by unfold cLeadB; simp
theorem lead_of {i : Nat} (hp : p i = true) (hn : ¬ cLead es p i) : ∃ j, j < i ∧ p j = true ∧ cLead es p j ∧ Rch (eAdj es p) j i := by
  induction i using Nat.strongRecOn with
  | _ i ih =>
    have : ∃ j, j < i ∧ p j = true ∧ Rch (eAdj es p) j i := by
      apply Classical.byContradiction
      intro h
      exact hn fun j h1 h2 h3 => h ⟨j, h1, h2, h3⟩
    obtain ⟨j, h1, h2, h3⟩ := this
    by_cases hl : cLead es p j
    · exact ⟨j, h1, h2, hl, h3⟩
    · obtain ⟨j', g1, g2, g3, g4⟩ := ih j h1 h2 hl
      exact ⟨j', by omega, g2, g3, g4.trans h3⟩
/-- A connected part. -/
noncomputable def compL (es : List (Int × Int)) (p : Nat → Bool) (i : Nat) : List Int := filtB (rchB (eAdj es p) i) es.length
theorem asc_take {t : Nat} (ha : Asc l) (ht : t < l.length) (y : Int) : y ∈ l.take t ↔ y ∈ l ∧ y < l[t] := by
  unfold Asc at ha
  rw [List.pairwise_iff_getElem] at ha
  constructor
  · intro h
    obtain ⟨i, hi, rfl⟩ := List.getElem_of_mem h
    rw [List.length_take] at hi
    rw [List.getElem_take]
    exact ⟨List.getElem_mem _, ha i t _ _ (by omega)⟩
  · rintro ⟨h, hlt⟩
    obtain ⟨i, hi, rfl⟩ := List.getElem_of_mem h
    rcases Nat.lt_or_ge i t with h' | h'
    · have : (l.take t)[i]'(by simp; omega) = l[i] := List.getElem_take ..
      rw [← this]; exact List.getElem_mem _
    · rcases Nat.lt_or_ge t i with h2 | h2
      · have := ha t i ht hi h2; omega
      · obtain rfl : i = t := by omega
        omega
/-- Whether a part that was met has the next edge. -/
theorem met_iff {n : Nat} (hl : l = filtB p es.length) {t : Nat} (ht : t < l.length) : (∃ y ∈ l.take t, cLeadB es p y.toNat = true ∧ Rch (eAdj es p) y.toNat (l[t]).toNat) ↔ cLeadB es p (l[t]).toNat = false := by
  have hasc : Asc l := by rw [hl]; exact filtB_asc _ _
  have hm : ∀ x, x ∈ l ↔ ∃ j : Nat, x = j ∧ j < es.length ∧ p j = true := fun x => by rw [hl]; exact mem_filtB
  obtain ⟨i, hi, hi1, hi2⟩ := (hm _).1 (List.getElem_mem ht)
  rw [hi, Int.toNat_natCast]
  constructor
  · rintro ⟨y, hy, h1, h2⟩
    rw [asc_take hasc ht] at hy
    obtain ⟨j, rfl, hj1, hj2⟩ := (hm y).1 hy.1
    rw [Int.toNat_natCast] at h2
    cases hb : cLeadB es p i with
    | false => rfl
    | true => exact absurd h2 (cLeadB_iff.1 hb j (by omega) hj2)
  · intro hb
    obtain ⟨j, h1, h2, h3, h4⟩ := lead_of (es := es) hi2 fun h => by rw [cLeadB_iff.2 h] at hb; cases hb
    refine ⟨j, (asc_take hasc ht _).2 ⟨(hm _).2 ⟨j, rfl, by omega, h2⟩, by omega⟩, ?_, ?_⟩
    · exact cLeadB_iff.2 h3
    · exact h4
theorem compL_asc (i : Nat) : Asc (compL es p i) := filtB_asc _ _
theorem mem_compL {i : Nat} {x : Int} : x ∈ compL es p i ↔ ∃ j : Nat, x = j ∧ j < es.length ∧ Rch (eAdj es p) i j := by
  unfold compL; rw [mem_filtB]
  exact ⟨fun ⟨j, h1, h2, h3⟩ => ⟨j, h1, h2, rchB_iff.1 h3⟩, fun ⟨j, h1, h2, h3⟩ => ⟨j, h1, h2, rchB_iff.2 h3⟩⟩
end
/-- Vertices that an edge joins. -/
def vAdj (fs : List (Int × Int)) (a b : Nat) : Prop := ((a : Int), (b : Int)) ∈ fs ∨ ((b : Int), (a : Int)) ∈ fs
end Go.Proofs
