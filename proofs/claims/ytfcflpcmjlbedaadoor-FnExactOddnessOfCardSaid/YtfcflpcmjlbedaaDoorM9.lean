/- Plain mathematics: sets of so many numbers, in order. -/
import Derived.Test.YtfcflpcmjlbedaaDoorM8
set_option linter.unusedVariables false
set_option linter.unusedSimpArgs false
namespace Go.Proofs
open Go.Abs

theorem IsS.bits {l : List Int} {n : Nat} (h : IsS l n) (hn : n ≤ 64) : bitsL (setN l) = l := by
  rw [bitsL_filt hn fun j hj => bitB_lt h hj]
  exact h.filt.symm
theorem flatMap_len {α β : Type} {f : α → List β} {c : Nat} : ∀ (l : List α), (∀ x ∈ l, (f x).length ≤ c) → (l.flatMap f).length ≤ l.length * c
  | [], _ => by simp
  | x :: l, h => by
    rw [List.flatMap_cons, List.length_append, List.length_cons, Nat.add_mul, Nat.one_mul]
    have := flatMap_len l fun y hy => h y (by simp [hy])
    have := h x (by simp)
    omega
/-- The same with a mark on what has been met so far. -/
def anyD {α : Type} (q : List α → Bool) : List α → List α → Bool
  | _, [] => false
  | d, x :: xs => q (d ++ [x]) || anyD q (d ++ [x]) xs
def upToD {α : Type} (q : List α → Bool) : List α → List α → List α
  | _, [] => []
  | d, x :: xs => if q (d ++ [x]) then [x] else x :: upToD q (d ++ [x]) xs
theorem anyD_app {α : Type} {q : List α → Bool} : ∀ {d a b : List α}, anyD q d (a ++ b) = (anyD q d a || anyD q (d ++ a) b)
  | d, [], b => by simp [anyD]
  | d, x :: a, b => by
    rw [List.cons_append, anyD, anyD, anyD_app (d := d ++ [x]), Bool.or_assoc]; simp
theorem upToD_app {α : Type} {q : List α → Bool} : ∀ {d a b : List α}, anyD q d a = false → upToD q d (a ++ b) = a ++ upToD q (d ++ a) b
  | d, [], b, _ => by simp
  | d, x :: a, b, h => by
    rw [anyD, Bool.or_eq_false_iff] at h
    rw [List.cons_append, upToD, h.1, upToD_app h.2]
    simp
theorem upToD_stop {α : Type} {q : List α → Bool} : ∀ {d a b : List α}, anyD q d a = true → upToD q d (a ++ b) = upToD q d a
  | d, x :: a, b, h => by
    rw [List.cons_append, upToD, upToD]
    cases hx : q (d ++ [x]) with
    | true => rfl
    | false =>
      rw [anyD, hx, Bool.false_or] at h
      simp [upToD_stop h]
theorem upToD_all {α : Type} {q : List α → Bool} {d a : List α} (h : anyD q d a = false) : upToD q d a = a := by
  have := upToD_app (b := []) h
  simpa [upToD] using this
theorem setN_snoc (l : List Int) (i : Nat) : setN (l ++ [(i : Int)]) = setN l ||| 2 ^ i := by
  unfold setN; rw [List.foldl_append]; rfl
end Go.Proofs
