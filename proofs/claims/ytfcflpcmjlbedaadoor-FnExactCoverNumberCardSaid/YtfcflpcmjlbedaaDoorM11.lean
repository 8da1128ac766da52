/- Plain mathematics: covers by so many lists. -/
import Derived.Test.YtfcflpcmjlbedaaDoorM10
set_option linter.unusedVariables false
set_option linter.unusedSimpArgs false
namespace Go.Proofs
open Go.Abs

/-- Whether so many more lists, with some numbers covered, cover all numbers less than m. -/
def covB (L : List (List Int)) (m : Nat) : Nat → Nat → Bool
  | 0, s => decide (fv s m = m)
  | k + 1, s => if fv s m = m then true else L.any fun l => decide (((fv s m : Nat) : Int) ∈ l) && covB L m k (s ||| setN l)
theorem covB_full {L : List (List Int)} {m s : Nat} (h : fv s m = m) : ∀ k, covB L m k s = true
  | 0 => by unfold covB; exact decide_eq_true h
  | k + 1 => by unfold covB; rw [if_pos h]
theorem covB_zero {L : List (List Int)} {m s : Nat} (h : fv s m ≠ m) : covB L m 0 s = false := by unfold covB; exact decide_eq_false h
theorem covB_succ {L : List (List Int)} {m s k : Nat} (h : fv s m ≠ m) : covB L m (k + 1) s = L.any fun l => decide (((fv s m : Nat) : Int) ∈ l) && covB L m k (s ||| setN l) := by
  conv => lhs; unfold covB
  rw [if_neg h]
theorem unseen_mono {S S' : Nat → Bool} (h : ∀ j, S j = true → S' j = true) : ∀ n, unseen S' n ≤ unseen S n
  | 0 => Nat.le_refl _
  | n + 1 => by
    have := unseen_mono h n
    rw [unseen, unseen]
    cases h1 : S n with
    | true => rw [h n h1]; simp; omega
    | false => split <;> simp <;> omega
theorem unseen_lt {S S' : Nat → Bool} (h : ∀ j, S j = true → S' j = true) {y : Nat} (h1 : S y = false) (h2 : S' y = true) : ∀ {n : Nat}, y < n → unseen S' n < unseen S n
  | n + 1, hy => by
    rw [unseen, unseen]
    by_cases e : y = n
    · subst e
      rw [h1, h2]
      have := unseen_mono h y
      simp; omega
    · have := unseen_lt h h1 h2 (n := n) (by omega)
      have hm : (if S' n = true then 0 else 1) ≤ (if S n = true then 0 else 1) := by
        cases hs : S n with
        | true => rw [h n hs]; simp
        | false => split <;> simp
      omega
theorem fv_left {s n : Nat} (h : left s n = 0) : fv s n = n := by
  rcases Nat.lt_or_ge (fv s n) n with h' | h'
  · have := unseen_ins (S := fun j => s.testBit j) h' (fv_at h')
    unfold left at h; omega
  · have := fv_le s n; omega
theorem covB_enough {L : List (List Int)} {m : Nat} (hL : ∀ j, j < m → ∃ l ∈ L, (j : Int) ∈ l) (hr : ∀ l ∈ L, ∀ x ∈ l, 0 ≤ x) : ∀ {k s : Nat}, left s m ≤ k → covB L m k s = true
  | 0, s, h => covB_full (fv_left (by omega)) 0
  | k + 1, s, h => by
    by_cases hf : fv s m = m
    · exact covB_full hf _
    · rw [covB_succ hf, List.any_eq_true]
      have hlt : fv s m < m := by have := fv_le s m; omega
      obtain ⟨l, h1, h2⟩ := hL _ hlt
      refine ⟨l, h1, ?_⟩
      rw [decide_eq_true h2, Bool.true_and]
      refine covB_enough hL hr ?_
      have hb : (setN l).testBit (fv s m) = true := by rw [setN_bit (hr l h1)]; exact decide_eq_true h2
      have := unseen_lt (S := fun j => s.testBit j) (S' := fun j => (s ||| setN l).testBit j) (fun j hj => by simp only [Nat.testBit_or, hj, Bool.true_or]) (fv_at hlt) (by simp only [Nat.testBit_or, hb, Bool.or_true]) hlt
      unfold left at h ⊢
      omega
/-- The least number from k on, tried so often. -/
def covN (L : List (List Int)) (m : Nat) : Nat → Nat → Nat
  | 0, k => k
  | f + 1, k => if covB L m k 0 then k else covN L m f (k + 1)
end Go.Proofs
