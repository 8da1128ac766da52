/- Plain mathematics: going round a cycle that a matching leaves. -/
import Derived.Test.YtfcflpcmjlbedabM10
set_option linter.unusedVariables false
set_option linter.unusedSimpArgs false
namespace Go.Proofs
open Go.Abs

section
variable {es : List (Int × Int)} {p : Nat → Bool} {l C : List Int} {n : Int}

theorem asc_nodup {l : List Int} (h : Asc l) : l.Nodup := by
  unfold Asc at h
  exact h.imp fun h => by intro e; omega
theorem filtB_nodup (S : Nat → Bool) (k : Nat) : (filtB S k).Nodup := asc_nodup (filtB_asc S k)
/-- How many edges of a list are on a vertex. -/
def degC (es : List (Int × Int)) (C : List Int) (x : Nat) : Nat := (C.filter fun i => on (es.getD i.toNat (0, 0)) x).length
theorem degC_snoc (C : List Int) (i : Nat) (x : Nat) : degC es (C ++ [(i : Int)]) x = degC es C x + if on (es.getD i (0, 0)) x then 1 else 0 := by
  unfold degC
  rw [List.filter_append, List.length_append]
  rw [List.filter_cons, Int.toNat_natCast, List.filter_nil]
  cases h : on (es.getD i (0, 0)) x <;> rfl
/-- A walk round a cycle: at an edge 'now' that comes from a vertex w and goes to a vertex v. -/
structure Walk (n : Int) (es : List (Int × Int)) (p : Nat → Bool) (e u0 : Nat) (E : Nat → Prop) (C : List Int) (now w v : Nat) : Prop where
  mem : ∀ i ∈ C, ∃ j : Nat, i = j ∧ j < es.length ∧ p j = true ∧ Rch (eAdj es p) e j ∧ ¬ E j
  nd : C.Nodup
  par : ∀ x : Nat, degC es C x % 2 = 1 ↔ ¬ (x = u0 ↔ x = w)
  lt : now < es.length
  pn : p now = true
  rch : Rch (eAdj es p) e now
  onw : on (es.getD now (0, 0)) w = true
  onv : on (es.getD now (0, 0)) v = true
  ne : w ≠ v
  wn : (w : Int) < n
  vn : (v : Int) < n
  last : (C = [] ∧ now = e ∧ w = u0) ∨ ((e : Int) ∈ C ∧ ∃ c : Nat, (c : Int) ∈ C ∧ c ≠ now ∧ on (es.getD c (0, 0)) w = true)
theorem on_iff2 {i w v x : Nat} (h1 : on (es.getD i (0, 0)) w = true) (h2 : on (es.getD i (0, 0)) v = true) (hne : w ≠ v) : on (es.getD i (0, 0)) x = true ↔ x = w ∨ x = v := by
  unfold on at h1 h2 ⊢
  simp only [Bool.or_eq_true, beq_iff_eq] at h1 h2 ⊢
  omega
variable {e u0 now w v : Nat} {E : Nat → Prop}
theorem Walk.step (h : Walk n es p e u0 E C now w v) (hC : (now : Int) ∉ C) (hE : ¬ E now) {q v' : Nat} (hq : q < es.length) (hp : p q = true) (hqn : q ≠ now) (hov : on (es.getD q (0, 0)) v = true) (hov' : on (es.getD q (0, 0)) v' = true) (hvv : v ≠ v') (hvn : (v' : Int) < n) :
    Walk n es p e u0 E (C ++ [(now : Int)]) q v v' := by
  refine ⟨fun i hi => ?_, ?_, fun x => ?_, hq, hp, .step h.rch ⟨hq, hp, _, h.onv, hov⟩, hov, hov', hvv, h.vn, hvn, .inr ⟨?_, now, by simp, fun e => hqn e.symm, h.onv⟩⟩
  · rcases List.mem_append.1 hi with hi | hi
    · exact h.mem i hi
    · rw [List.mem_singleton] at hi
      exact ⟨now, hi, h.lt, h.pn, h.rch, hE⟩
  · rw [List.nodup_append]
    refine ⟨h.nd, by simp, fun a ha b hb => ?_⟩
    rw [List.mem_singleton] at hb
    rintro rfl
    rw [hb] at ha
    exact hC ha
  · rw [degC_snoc]
    have hp := h.par x
    have ho := on_iff2 (x := x) h.onw h.onv h.ne
    have hne := h.ne
    by_cases h1 : on (es.getD now (0, 0)) x = true
    · rw [if_pos h1]
      have h2 := ho.1 h1
      by_cases hx : x = u0 <;> by_cases hw : x = w <;> by_cases hv : x = v <;> simp [hx, hw, hv] at hp h2 ⊢ <;> omega
    · rw [if_neg h1, Nat.add_zero]
      have h2 : x ≠ w ∧ x ≠ v := ⟨fun e => h1 (ho.2 (.inl e)), fun e => h1 (ho.2 (.inr e))⟩
      rw [hp]
      constructor
      · intro h3 h4; exact h3 ⟨fun e => absurd (h4.1 e) h2.2, fun e => absurd e h2.1⟩
      · intro h3 h4; exact h3 ⟨fun e => absurd (h4.1 e) h2.1, fun e => absurd e h2.2⟩
  · rcases h.last with ⟨_, h2, _⟩ | ⟨h1, _⟩
    · rw [h2]; simp
    · exact List.mem_append_left _ h1
end
end Go.Proofs
