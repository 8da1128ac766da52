/- Contracts: colourings and matchings, both sides. -/
import Derived.Test.YtfcflpcmjlbedabU8
set_option linter.unusedVariables false
set_option linter.unusedSimpArgs false
set_option maxRecDepth 100000
namespace Go.Proofs
open Go.Abs

variable {H : AHeap} {v u f : Value} {l m c : List Int} {es fs : List (Int × Int)} {K : Value → AHeap → Prop}

abbrev LU (s : List Nat) : List Value := s.map fun x => Value.int .u64 (x : Nat)
abbrev LB (s : List Bool) : List Value := s.map Value.bool
theorem rep_u (n : Nat) : (List.replicate n [Value.int .u64 0]).flatten = LU (List.replicate n 0) := by
  induction n with
  | zero => rfl
  | succ n ih => rw [List.replicate_succ, List.replicate_succ, List.flatten_cons, ih]; rfl
theorem rep_b (n : Nat) : (List.replicate n [Value.bool false]).flatten = LB (List.replicate n false) := by
  induction n with
  | zero => rfl
  | succ n ih => rw [List.replicate_succ, List.replicate_succ, List.flatten_cons, ih]; rfl
/-- The place of an element in a row of one's own. -/
theorem own_idx {b n : Nat} {x : Int} {K : Nat → Nat → Prop} (h0 : 0 ≤ x) (h1 : x < n) (k : K b x.toNat) : idxK (.slice (some ⟨b, 0, none⟩) n (n + 1)) x 1 K := ⟨h0, h1, by simpa using k⟩

/-- What has been seen of colours at vertices. -/
def Seen (es : List (Int × Int)) (c : List Int) (S : List Nat) (i m : Nat) : Prop :=
  ∀ w, w < S.length → S.getD w 0 < 2 ^ 64 ∧ ∀ k : Nat, (S.getD w 0).testBit k = true ↔ (∃ j, j < i ∧ on (es.getD j (0, 0)) w = true ∧ c.getD j 0 = k) ∨ ((∃ m', m' < m ∧ (w : Int) = en (es.getD i (0, 0)) m') ∧ c.getD i 0 = k)
theorem Seen.next {es : List (Int × Int)} {c : List Int} {S : List Nat} {i : Nat} (h : Seen es c S i 2) : Seen es c S (i + 1) 0 := by
  intro w hw
  obtain ⟨h1, h2⟩ := h w hw
  refine ⟨h1, fun k => (h2 k).trans ⟨?_, ?_⟩⟩
  · rintro (⟨j, hj, ho, hc⟩ | ⟨⟨m', hm, he⟩, hc⟩)
    · exact .inl ⟨j, by omega, ho, hc⟩
    · exact .inl ⟨i, by omega, by rw [he]; exact on_en, hc⟩
  · rintro (⟨j, hj, ho, hc⟩ | ⟨⟨m', hm, he⟩, hc⟩)
    · by_cases h : j = i
      · subst h
        rcases on_cases ho with e | e
        · exact .inr ⟨⟨0, by omega, e⟩, hc⟩
        · exact .inr ⟨⟨1, by omega, e⟩, hc⟩
      · exact .inl ⟨j, by omega, ho, hc⟩
    · omega

end Go.Proofs
