/- Contracts: cycles of a set, whether a set is a cycle, both sides. -/
import Derived.Test.YtfcflpcmjlbedabU18
import Derived.Test.YtfcflpcmjlbedabU19
set_option linter.unusedVariables false
set_option linter.unusedSimpArgs false
set_option maxRecDepth 100000
namespace Go.Proofs
open Go.Abs

variable {H G : AHeap} {v u f : Value} {l m c : List Int} {es fs : List (Int × Int)} {K : Value → AHeap → Prop} {A : Nat → Prop} {B : Nat} {ls : List (List Int)}

theorem set_bits {l : List Int} {n : Nat} (h : IsS l n) : filtB (fun j => (setN l).testBit j) n = l := h.filt.symm
theorem set_lt {l : List Int} {n : Nat} (h : IsS l n) (hn : n ≤ 64) : setN l < 2 ^ 64 := setN_lt fun x hx => by have := h.range x hx; omega
theorem cycOf_length {es : List (Int × Int)} {p : Nat → Bool} {l : List Int} : (cycOf es p l).length ≤ l.length := by
  unfold cycOf; rw [List.length_map]; exact List.length_filter_le _ _

theorem tot_small : ∀ {ls : List (List Int)}, (∀ l ∈ ls, l.length ≤ 1000) → totL ls ≤ ls.length * 1000
  | [], _ => Nat.le_refl _
  | l :: ls, h => by
    have h1 := tot_small (ls := ls) fun x hx => h x (by simp [hx])
    have h2 := h l (by simp)
    simp [totL] at h1 ⊢; omega
theorem rows_small {ls : List (List Int)} (h1 : ls.length ≤ 100000) (h2 : ∀ l ∈ ls, l.length ≤ 1000) : ls.length ≤ 1048576 ∧ (∀ l ∈ ls, l.length ≤ 4294967296) ∧ totL ls ≤ 1000000000000 :=
  ⟨by omega, fun l hl => by have := h2 l hl; omega, by have := tot_small h2; omega⟩
theorem cycOf_row {es : List (Int × Int)} {p : Nat → Bool} {l m : List Int} (h : m ∈ cycOf es p l) : m.length ≤ es.length := by
  unfold cycOf at h
  obtain ⟨x, _, rfl⟩ := List.mem_map.1 h
  exact filtB_length _ _
end Go.Proofs
