/- Plain mathematics: partial colourings, step by step; weak sets. -/
import Derived.Test.YtfcflpcmjlbedabM9
set_option linter.unusedVariables false
set_option linter.unusedSimpArgs false
namespace Go.Proofs
open Go.Abs

noncomputable instance (a b : Int × Int) : Decidable (share a b) := Classical.propDecidable _
/-- Some edge with a colour is near an edge. -/
noncomputable def clashB (es : List (Int × Int)) (c : List Int) (i : Nat) (x : Int) : Bool := @decide (∃ j, j < c.length ∧ c.getD j 0 = x ∧ share (es.getD j (0, 0)) (es.getD i (0, 0))) (Classical.propDecidable _)
theorem clashB_iff {es : List (Int × Int)} {c : List Int} {i : Nat} {x : Int} : clashB es c i x = true ↔ ∃ j, j < c.length ∧ c.getD j 0 = x ∧ share (es.getD j (0, 0)) (es.getD i (0, 0)) := by unfold clashB; simp
/-- Whether the rest can have colours, edge by edge; the first number is how many edges are to come. -/
noncomputable def spB (es : List (Int × Int)) (out : Nat → Bool) : Nat → List Int → Bool
  | 0, _ => true
  | r + 1, c => if out c.length then spB es out r (c ++ [-1]) else (!clashB es c c.length 0 && spB es out r (c ++ [0])) || (!clashB es c c.length 1 && spB es out r (c ++ [1])) || (!clashB es c c.length 2 && spB es out r (c ++ [2]))
/-- Whether listed edges can have colours, one after the other. -/
noncomputable def ptB (es : List (Int × Int)) : List Int → List Int → Bool
  | [], _ => true
  | i :: E, c => (!clashB es c i.toNat 0 && ptB es E (c.set i.toNat 0)) || (!clashB es c i.toNat 1 && ptB es E (c.set i.toNat 1)) || (!clashB es c i.toNat 2 && ptB es E (c.set i.toNat 2))
def pad (c : List Int) (r : Nat) : List Int := c ++ List.replicate r (-1)
theorem pad_length (c : List Int) (r : Nat) : (pad c r).length = c.length + r := by simp [pad]
theorem pad_get {c : List Int} {r j : Nat} : (pad c r).getD j 0 = if j < c.length then c.getD j 0 else if j < c.length + r then -1 else 0 := by
  unfold pad
  simp only [List.getD, List.getElem?_append, List.getElem?_replicate]
  by_cases h1 : j < c.length
  · rw [if_pos h1, if_pos h1]
  · rw [if_neg h1, if_neg h1]
    by_cases h2 : j < c.length + r
    · rw [if_pos (by omega), if_pos h2]; rfl
    · rw [if_neg (by omega), if_neg h2]; rfl
theorem pad_set {c : List Int} {r : Nat} (x : Int) : (pad c (r + 1)).set c.length x = pad (c ++ [x]) r := by
  unfold pad
  rw [List.set_append_right _ _ (Nat.le_refl _), Nat.sub_self, List.replicate_succ, List.set_cons_zero, List.append_assoc]; rfl
theorem pad_snoc {c : List Int} {r : Nat} : pad c (r + 1) = pad (c ++ [-1]) r := by
  unfold pad
  rw [List.replicate_succ, List.append_assoc]; rfl
theorem clash_pad {es : List (Int × Int)} {c : List Int} {r i : Nat} {x : Int} (hx : 0 ≤ x) : clashB es (pad c r) i x = clashB es c i x := by
  rw [Bool.eq_iff_iff, clashB_iff, clashB_iff]
  constructor
  · rintro ⟨j, h1, h2, h3⟩
    rw [pad_get] at h2
    by_cases h : j < c.length
    · rw [if_pos h] at h2; exact ⟨j, h, h2, h3⟩
    · rw [if_neg h] at h2
      rw [pad_length] at h1
      rw [if_pos h1] at h2; omega
  · rintro ⟨j, h1, h2, h3⟩
    exact ⟨j, by rw [pad_length]; omega, by rw [pad_get, if_pos h1]; exact h2, h3⟩
/-- The edges to come. -/
def toCome (out : Nat → Bool) (e : Nat) : Nat → List Int
  | 0 => []
  | r + 1 => if out e then toCome out (e + 1) r else (e : Int) :: toCome out (e + 1) r
theorem sp_pt {es : List (Int × Int)} {out : Nat → Bool} : ∀ (r : Nat) (c : List Int), spB es out r c = ptB es (toCome out c.length r) (pad c r)
  | 0, c => rfl
  | r + 1, c => by
    rw [spB, toCome]
    by_cases h : out c.length = true
    · rw [if_pos h, if_pos h, sp_pt r, pad_snoc, List.length_append]; rfl
    · rw [if_neg h, if_neg h, ptB]
      rw [Int.toNat_natCast, clash_pad (by decide), clash_pad (by decide), clash_pad (by decide), pad_set, pad_set, pad_set, sp_pt r, sp_pt r, sp_pt r]
      simp only [List.length_append, List.length_cons, List.length_nil]
theorem toCome_filt (out : Nat → Bool) : ∀ (r e : Nat), filtB (fun j => !out j) (e + r) = filtB (fun j => !out j) e ++ toCome out e r
  | 0, e => by simp [toCome]
  | r + 1, e => by
    rw [show e + (r + 1) = (e + 1) + r by omega, toCome_filt out r (e + 1), filtB_succ, toCome]
    cases h : out e <;> simp [h]
theorem toCome_zero (out : Nat → Bool) (m : Nat) : toCome out 0 m = filtB (fun j => !out j) m := by
  have := toCome_filt out m 0
  rw [Nat.zero_add] at this
  rw [this]; rfl
/-- A set of edges without which there are colours. -/
noncomputable def wkQ (es : List (Int × Int)) (l : List Int) : Bool := spB es (bitB l) es.length []
theorem wkQ_pt {es : List (Int × Int)} {l : List Int} : wkQ es l = ptB es (filtB (fun j => !bitB l j) es.length) (List.replicate es.length (-1)) := by
  unfold wkQ
  rw [sp_pt, List.length_nil, toCome_zero]; rfl
theorem spB_out {es : List (Int × Int)} {out : Nat → Bool} : ∀ (r : Nat) (c : List Int), (∀ j, c.length ≤ j → j < c.length + r → out j = true) → spB es out r c = true
  | 0, _, _ => rfl
  | r + 1, c, h => by
    rw [spB, if_pos (h _ (Nat.le_refl _) (by omega))]
    exact spB_out r _ fun j h1 h2 => h j (by simp at h1; omega) (by simp at h2; omega)
theorem cmb_full (m : Nat) : ∀ (k f : Nat), f + k = m → ∃ l ∈ cmb m k f, ∀ j, f ≤ j → j < m → (j : Int) ∈ l
  | 0, f, h => ⟨[], by simp [cmb_zero], fun j h1 h2 => by omega⟩
  | k + 1, f, h => by
    obtain ⟨l, h1, h2⟩ := cmb_full m k (f + 1) (by omega)
    refine ⟨(f : Int) :: l, ?_, fun j h3 h4 => ?_⟩
    · rw [cmb_succ, cmbTo, List.mem_flatMap]
      exact ⟨f, by rw [List.mem_filter, List.mem_range]; exact ⟨by omega, by simp⟩, List.mem_map.2 ⟨l, h1, rfl⟩⟩
    · by_cases e : j = f
      · subst e; simp
      · exact List.mem_cons_of_mem _ (h2 j (by omega) h4)
theorem weak_some (es : List (Int × Int)) : ∃ l ∈ cmb es.length es.length 0, wkQ es l = true := by
  obtain ⟨l, h1, h2⟩ := cmb_full es.length es.length 0 (by omega)
  refine ⟨l, h1, ?_⟩
  unfold wkQ
  refine spB_out _ _ fun j _ h => ?_
  rw [bitB_mem (mem_cmb h1).2.1]
  exact h2 j (by omega) (by simpa using h)
/-- The first weak set of so many edges or more. -/
noncomputable def weakF (es : List (Int × Int)) : Nat → Nat → List Int
  | 0, _ => []
  | f + 1, k => match (cmb es.length k 0).find? (wkQ es) with
    | some l => l
    | none => weakF es f (k + 1)
end Go.Proofs
