/- Plain mathematics: exploring step by step. -/
import Derived.Test.YtfcflpcmjlbedabM3
set_option linter.unusedVariables false
set_option linter.unusedSimpArgs false
namespace Go.Proofs
open Go.Abs

/-- What is reached from e. -/
inductive Rch (adj : Nat → Nat → Prop) (e : Nat) : Nat → Prop
  | refl : Rch adj e e
  | step {x y : Nat} : Rch adj e x → adj x y → Rch adj e y
theorem Rch.trans {adj : Nat → Nat → Prop} {a b c : Nat} (h : Rch adj a b) (k : Rch adj b c) : Rch adj a c := by
  induction k with
  | refl => exact h
  | step _ h2 ih => exact .step ih h2
theorem Rch.symm {adj : Nat → Nat → Prop} (hs : ∀ x y, adj x y → adj y x) {a b : Nat} (h : Rch adj a b) : Rch adj b a := by
  induction h with
  | refl => exact .refl
  | step _ h2 ih => exact (Rch.step .refl (hs _ _ h2)).trans ih
/-- What holds where one begins and goes along holds where one comes. -/
theorem Rch.keep {adj : Nat → Nat → Prop} {P : Nat → Prop} (hs : ∀ x y, adj x y → P x → P y) {a b : Nat} (h : Rch adj a b) (ha : P a) : P b := by
  induction h with
  | refl => exact ha
  | step _ h2 ih => exact hs _ _ h2 ih
noncomputable instance (adj : Nat → Nat → Prop) (a b : Nat) : Decidable (Rch adj a b) := Classical.propDecidable _

def insB (S : Nat → Bool) (y : Nat) : Nat → Bool := fun j => S j || decide (y = j)
theorem insB_self (S : Nat → Bool) (y : Nat) : insB S y y = true := by simp [insB]
theorem insB_of {S : Nat → Bool} {y x : Nat} (h : S x = true) : insB S y x = true := by simp [insB, h]
theorem insB_ne {S : Nat → Bool} {y x : Nat} (h : insB S y x = true) (hne : x ≠ y) : S x = true := by
  simp only [insB, Bool.or_eq_true, decide_eq_true_eq] at h
  exact h.elim id fun h => absurd h.symm hne
def unseen (S : Nat → Bool) : Nat → Nat
  | 0 => 0
  | n + 1 => unseen S n + if S n then 0 else 1
theorem unseen_congr {S S' : Nat → Bool} : ∀ {n : Nat}, (∀ i, i < n → S i = S' i) → unseen S n = unseen S' n
  | 0, _ => rfl
  | n + 1, h => by rw [unseen, unseen, unseen_congr fun i hi => h i (by omega), h n (by omega)]
theorem unseen_ins {S : Nat → Bool} {y : Nat} : ∀ {n : Nat}, y < n → S y = false → unseen (insB S y) n + 1 = unseen S n
  | n + 1, h, hs => by
    rw [unseen, unseen]
    by_cases e : y = n
    · subst e
      rw [unseen_congr (S' := S) fun i hi => by simp [insB]; intro h; omega, insB_self, hs]; simp
    · have : insB S y n = S n := by simp [insB, e]
      rw [this, ← unseen_ins (n := n) (by omega) hs]; omega
/-- A state of an exploration: what is seen, and what waits. -/
structure Ex (adj : Nat → Nat → Prop) (e : Nat) (S : Nat → Bool) (Q : List Nat) : Prop where
  start : S e = true
  q : ∀ x ∈ Q, S x = true
  rch : ∀ x, S x = true → Rch adj e x
  done : ∀ x, S x = true → x ∉ Q → ∀ y, adj x y → S y = true
theorem Ex.congr {adj : Nat → Nat → Prop} {e : Nat} {S S' : Nat → Bool} {Q : List Nat} (h : Ex adj e S Q) (hs : ∀ x, S' x = S x) : Ex adj e S' Q := by
  have : S' = S := funext hs
  rw [this]; exact h
theorem Ex.push {adj : Nat → Nat → Prop} {e : Nat} {S : Nat → Bool} {Q : List Nat} (h : Ex adj e S Q) {x y : Nat} (hx : S x = true) (ha : adj x y) : Ex adj e (insB S y) (Q ++ [y]) := by
  refine ⟨insB_of h.start, fun z hz => ?_, fun z hz => ?_, fun z hz hn w hw => ?_⟩
  · rcases List.mem_append.1 hz with hz | hz
    · exact insB_of (h.q z hz)
    · rw [List.mem_singleton] at hz; rw [hz]; exact insB_self _ _
  · by_cases e' : z = y
    · rw [e']; exact .step (h.rch x hx) ha
    · exact h.rch z (insB_ne hz e')
  · rw [List.mem_append, List.mem_singleton] at hn
    exact insB_of (h.done z (insB_ne hz fun h => hn (.inr h)) (fun h => hn (.inl h)) w hw)
theorem Ex.fin {adj : Nat → Nat → Prop} {e : Nat} {S : Nat → Bool} (h : Ex adj e S []) (x : Nat) : S x = true ↔ Rch adj e x := by
  refine ⟨h.rch x, fun hr => hr.keep (P := fun x => S x = true) (fun a b hab ha => ?_) h.start⟩
  exact h.done a ha (by simp) b hab
end Go.Proofs
