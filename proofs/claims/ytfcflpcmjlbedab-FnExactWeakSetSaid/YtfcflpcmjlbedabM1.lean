/- Plain mathematics: graphs. -/
import Derived.Test.YtfcflpcmjlbedabP3
set_option linter.unusedVariables false
set_option linter.unusedSimpArgs false
namespace Go.Proofs
open Go.Abs

structure IsEd (n : Int) (es : List (Int × Int)) : Prop where
  lo : 2 ≤ n
  hi : n ≤ 20
  even : n % 2 = 0
  len : (es.length : Int) = 3 * n / 2
  ends : ∀ e ∈ es, 0 ≤ e.1 ∧ e.1 ≤ n - 1 ∧ 0 ≤ e.2 ∧ e.2 ≤ n - 1 ∧ e.1 ≠ e.2
def bump1 (cs : List Int) (v : Int) : List Int := cs.set v.toNat (cs.getD v.toNat 0 + 1)
def bump (cs : List Int) (e : Int × Int) : List Int := bump1 (bump1 cs e.1) e.2
def counts (n : Int) (es : List (Int × Int)) : List Int := es.foldl bump (List.replicate n.toNat 0)
def ltE (a b : Int × Int) : Prop := a.1 < b.1 ∨ a.1 = b.1 ∧ a.2 < b.2
instance (a b : Int × Int) : Decidable (ltE a b) := by unfold ltE; infer_instance
def Srt (es : List (Int × Int)) : Prop := ∀ i, i + 1 < es.length → ¬ ltE (es.getD (i + 1) (0, 0)) (es.getD i (0, 0))
structure IsG (n : Int) (es : List (Int × Int)) : Prop where
  ed : IsEd n es
  up : ∀ e ∈ es, e.1 < e.2
  srt : Srt es
  cub : ∀ c ∈ counts n es, c = 3
noncomputable instance (n : Int) (es : List (Int × Int)) : Decidable (IsG n es) := Classical.propDecidable _
noncomputable instance (n : Int) (es : List (Int × Int)) : Decidable (IsEd n es) := Classical.propDecidable _
/-- A set of numbers less than n, ascending. -/
def IsS (l : List Int) (n : Int) : Prop := ∀ i, i < l.length → 0 ≤ l.getD i 0 ∧ l.getD i 0 ≤ n - 1 ∧ (0 < i → l.getD (i - 1) 0 < l.getD i 0)
noncomputable instance (l : List Int) (n : Int) : Decidable (IsS l n) := Classical.propDecidable _
def Cub (n : Int) (es : List (Int × Int)) : Prop := ∀ c ∈ counts n es, c = 3
noncomputable instance (n : Int) (es : List (Int × Int)) : Decidable (Cub n es) := Classical.propDecidable _

theorem bump1_length (cs : List Int) (v : Int) : (bump1 cs v).length = cs.length := by simp [bump1]
theorem bump_length (cs : List Int) (e : Int × Int) : (bump cs e).length = cs.length := by simp [bump, bump1_length]
theorem foldl_bump_length : ∀ (es : List (Int × Int)) (cs : List Int), (es.foldl bump cs).length = cs.length
  | [], cs => rfl
  | e :: es, cs => by rw [List.foldl_cons, foldl_bump_length es, bump_length]
theorem counts_length (n : Int) (es : List (Int × Int)) : (counts n es).length = n.toNat := by simp [counts, foldl_bump_length]
theorem counts_take (n : Int) (es : List (Int × Int)) {i : Nat} (h : i < es.length) : counts n (es.take (i + 1)) = bump (counts n (es.take i)) es[i] := by
  unfold counts; rw [List.take_succ_eq_append_getElem h, List.foldl_append]; rfl
theorem bump1_le {cs : List Int} {B : Int} (h : ∀ c ∈ cs, 0 ≤ c ∧ c ≤ B) (v : Int) : ∀ c ∈ bump1 cs v, 0 ≤ c ∧ c ≤ B + 1 := by
  intro c hc
  unfold bump1 at hc
  by_cases hv : v.toNat < cs.length
  · rcases List.mem_or_eq_of_mem_set hc with hc | rfl
    · have := h c hc; omega
    · have := h cs[v.toNat] (List.getElem_mem hv)
      rw [getD_of hv]; omega
  · rw [List.set_eq_of_length_le (by omega)] at hc
    have := h c hc; omega
theorem foldl_bump_le : ∀ (es : List (Int × Int)) (cs : List Int) (B : Int), (∀ c ∈ cs, 0 ≤ c ∧ c ≤ B) → ∀ c ∈ es.foldl bump cs, 0 ≤ c ∧ c ≤ B + 2 * es.length
  | [], cs, B, h, c, hc => by have := h c hc; simp; omega
  | e :: es, cs, B, h, c, hc => by
    have := foldl_bump_le es (bump cs e) (B + 2) (fun c hc => by have := bump1_le (bump1_le h e.1) e.2 c hc; omega) c hc
    simp; omega
theorem counts_le (n : Int) (es : List (Int × Int)) : ∀ c ∈ counts n es, 0 ≤ c ∧ c ≤ 2 * es.length := by
  intro c hc
  have := foldl_bump_le es _ 0 (by intro c hc; rw [List.mem_replicate] at hc; omega) c hc
  omega
end Go.Proofs
