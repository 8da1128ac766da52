/- Plain mathematics: sets of so many numbers, in order. -/
import Derived.Test.YtfcflpcmjlbedabM8
set_option linter.unusedVariables false
set_option linter.unusedSimpArgs false
namespace Go.Proofs
open Go.Abs

/-- All sets of k numbers less than n, from f on, in order. -/
def cmb (n : Nat) : Nat → Nat → List (List Int)
  | 0, _ => [[]]
  | k + 1, f => ((List.range n).filter fun i => decide (f ≤ i)).flatMap fun i => (cmb n k (i + 1)).map ((i : Int) :: ·)
/-- Those whose least number is less than i. -/
def cmbTo (n k f i : Nat) : List (List Int) := ((List.range i).filter fun i => decide (f ≤ i)).flatMap fun i => (cmb n k (i + 1)).map ((i : Int) :: ·)
theorem cmb_zero (n f : Nat) : cmb n 0 f = [[]] := rfl
theorem cmb_succ (n k f : Nat) : cmb n (k + 1) f = cmbTo n k f n := rfl
theorem cmbTo_succ {n k f i : Nat} (h : f ≤ i) : cmbTo n k f (i + 1) = cmbTo n k f i ++ (cmb n k (i + 1)).map ((i : Int) :: ·) := by
  unfold cmbTo
  rw [List.range_succ, List.filter_append, List.flatMap_append]
  congr 1
  simp [h]
theorem cmbTo_start {n k f i : Nat} (h : i ≤ f) : cmbTo n k f i = [] := by
  unfold cmbTo
  have : (List.range i).filter (fun i => decide (f ≤ i)) = [] := by
    rw [List.filter_eq_nil_iff]
    intro a ha
    rw [List.mem_range] at ha
    simp; omega
  rw [this]; rfl
theorem cmb_none {n : Nat} : ∀ {k f : Nat}, n < f + k → 0 < k → cmb n k f = []
  | 0, _, _, h => absurd h (by omega)
  | k + 1, f, h, _ => by
    rw [cmb_succ, cmbTo, List.flatMap_eq_nil_iff]
    intro i hi
    rw [List.mem_filter, List.mem_range] at hi
    have hfi := of_decide_eq_true hi.2
    rw [cmb_none (k := k) (f := i + 1) (by omega) (by omega)]; rfl
/-- What is left is too little. -/
theorem cmbTo_end {n k f i : Nat} (hi : i ≤ n) (hf : f ≤ i) (h : n < i + k + 1) : cmbTo n k f n = cmbTo n k f i := by
  obtain ⟨d, rfl⟩ : ∃ d, n = i + d := ⟨n - i, by omega⟩
  have key : ∀ e, e ≤ d → cmbTo (i + d) k f (i + e) = cmbTo (i + d) k f i := by
    intro e
    induction e with
    | zero => intro _; rfl
    | succ e ih =>
      intro he
      rw [← Nat.add_assoc, cmbTo_succ (by omega), ih (by omega), cmb_none (by omega) (by omega)]; simp
  exact key d (Nat.le_refl _)
theorem isS_nil (n : Int) : IsS [] n := fun i hi => absurd hi (by simp)
theorem isS_cons {x n : Int} {l : List Int} (h0 : 0 ≤ x) (h1 : x < n) (h : IsS l n) (hx : ∀ y ∈ l, x < y) : IsS (x :: l) n := by
  intro i hi
  cases i with
  | zero => exact ⟨h0, by show x ≤ n - 1; omega, fun h => absurd h (by omega)⟩
  | succ i =>
    have hi' : i < l.length := by simpa using hi
    obtain ⟨a, b, c⟩ := h i hi'
    refine ⟨a, b, fun _ => ?_⟩
    cases i with
    | zero =>
      show x < l.getD 0 0
      rw [getD_of hi']; exact hx _ (List.getElem_mem hi')
    | succ i => exact c (by omega)
theorem mem_cmb {n : Nat} : ∀ {k f : Nat} {l : List Int}, l ∈ cmb n k f → l.length = k ∧ IsS l n ∧ ∀ x ∈ l, (f : Int) ≤ x
  | 0, f, l, h => by
    rw [cmb_zero, List.mem_singleton] at h; subst h
    exact ⟨rfl, isS_nil _, fun x hx => by cases hx⟩
  | k + 1, f, l, h => by
    rw [cmb_succ, cmbTo, List.mem_flatMap] at h
    obtain ⟨i, hi, hl⟩ := h
    rw [List.mem_filter, List.mem_range] at hi
    have hfi := of_decide_eq_true hi.2
    rw [List.mem_map] at hl
    obtain ⟨m, hm, rfl⟩ := hl
    obtain ⟨g1, g2, g3⟩ := mem_cmb hm
    refine ⟨by simp [g1], isS_cons (by omega) (by omega) g2 fun y hy => by have := g3 y hy; omega, fun x hx => ?_⟩
    rcases List.mem_cons.1 hx with rfl | hx
    · omega
    · have := g3 x hx; omega
theorem IsS.bits {l : List Int} {n : Nat} (h : IsS l n) (hn : n ≤ 64) : bitsL (setN l) = l := by
  rw [bitsL_filt hn fun j hj => bitB_lt h hj]
  exact h.filt.symm
/-- Up to the first with a mark, that one too. -/
def upTo {α : Type} (q : α → Bool) : List α → List α
  | [] => []
  | x :: xs => if q x then [x] else x :: upTo q xs
theorem upTo_app {α : Type} {q : α → Bool} : ∀ {a b : List α}, a.any q = false → upTo q (a ++ b) = a ++ upTo q b
  | [], b, _ => rfl
  | x :: a, b, h => by
    rw [List.any_cons, Bool.or_eq_false_iff] at h
    rw [List.cons_append, upTo, h.1]
    simp [upTo_app h.2]
theorem upTo_stop {α : Type} {q : α → Bool} : ∀ {a b : List α}, a.any q = true → upTo q (a ++ b) = upTo q a
  | x :: a, b, h => by
    rw [List.cons_append, upTo, upTo]
    cases hx : q x with
    | true => rfl
    | false =>
      rw [List.any_cons, hx, Bool.false_or] at h
      simp [upTo_stop h]
theorem upTo_all {α : Type} {q : α → Bool} {a : List α} (h : a.any q = false) : upTo q a = a := by
  have := upTo_app (b := []) h
  simpa [upTo] using this
theorem setN_snoc (l : List Int) (i : Nat) : setN (l ++ [(i : Int)]) = setN l ||| 2 ^ i := by
  unfold setN; rw [List.foldl_append]; rfl
end Go.Proofs
